/- Part 1 of the library of this claim: what the program and the document compute, as contracts of their functions. -/
import Derived.Deep.RegionHeld
import Derived.Orders
import Derived.Below
import Derived.Deep.Draws
import Derived.Deep.AppendLies
import Derived.Maps.AppendAt
import Derived.OwnWalk
import Derived.Laws.BytesArg
import Derived.Laws.MakeOwn
import Derived.Laws.OwnMore
import Derived.Deep.OwnRows
import Derived.Tactics
import Derived.Lib.ConvBytes
import Derived.Laws.Slices
import Derived.WalkKit
import Derived.KernelRfl
import Derived.RowKit3
import Derived.Deep.LoopGhost
import Derived.Deep.QuietTactic
import Derived.BigQuiet
import Derived.WideLaws
import Derived.Deep.DeepCutAuto
import Derived.Deep.CutBlock
import Derived.Deep.RegionHeld3
import Derived.Laws.Rows
import Derived.Lib.AppendStr
import Derived.ArgAppend
import Derived.Laws.IdiomCopy
import Derived.RowKit
import Derived.Test.YtkdicconchobfaaGreatDoorProg
import Derived.WalkSpells
import Derived.WalkLawsBesides
import Derived.Laws.Bits64b
import Derived.Deep.RegionWith
import Derived.Shelf.Small.Bits
import Derived.Shelf.Strconv.Itoa0
import Derived.Shelf.Bits.Mul64
import Derived.Shelf.Lays7
import Derived.Shelf.Spec.BitsCarry
import Derived.Shelf.Spec.TrailingZeros
import Derived.BigRegion
set_option maxRecDepth 100000
set_option maxHeartbeats 8000000
namespace Exq
set_option linter.unusedVariables false
theorem mul_le {a b c d : Rat} (h : a ≤ b) (h2 : c ≤ d) (ha : 0 ≤ a) (hd : 0 ≤ d) : a * c ≤ b * d :=
 Rat.le_trans (Rat.mul_le_mul_of_nonneg_left h2 ha) (Rat.mul_le_mul_of_nonneg_right h hd)
theorem inv_le {a b : Rat} (h0 : 0 < a) (h : a ≤ b) : b⁻¹ ≤ a⁻¹ := by
 have hb : 0 < b := by grind
 have e1 : a * a⁻¹ = 1 := Rat.mul_inv_cancel a (by grind)
 have e2 : b * b⁻¹ = 1 := Rat.mul_inv_cancel b (by grind)
 have p1 : 0 < a⁻¹ := Rat.inv_pos.2 h0
 have p2 : 0 < b⁻¹ := Rat.inv_pos.2 hb
 have h1 := Rat.mul_le_mul_of_nonneg_right h (Rat.le_of_lt (Rat.mul_pos p1 p2))
 have e3 : a * (a⁻¹ * b⁻¹) = b⁻¹ := by grind
 have e4 : b * (a⁻¹ * b⁻¹) = a⁻¹ := by grind
 grind
def tm (m : Nat) (x : Rat) : Nat → Rat
 | 0 => 1
 | k + 1 => tm m x k * x * ((k + 1 + m : Nat) : Rat)⁻¹
def sm (m : Nat) (x : Rat) : Nat → Rat
 | 0 => 0
 | n + 1 => sm m x n + tm m x n
theorem inv_nat_pos (k : Nat) : 0 < ((k + 1 : Nat) : Rat)⁻¹ := Rat.inv_pos.2 (Rat.natCast_pos.2 (Nat.succ_pos k))
theorem inv_nat_le (k : Nat) : ((k + 1 : Nat) : Rat)⁻¹ ≤ 1 := by
 have h := inv_le (a := 1) (b := ((k + 1 : Nat) : Rat)) (by grind) (by
  have := Rat.natCast_le_natCast.2 (show 1 ≤ k + 1 by omega)
  exact this)
 have e : (1 : Rat)⁻¹ = 1 := by grind
 rw [e] at h; exact h
theorem tm_nonneg {m : Nat} {x : Rat} (hx : 0 ≤ x) : ∀ k, 0 ≤ tm m x k
 | 0 => by show (0 : Rat) ≤ 1; grind
 | k + 1 => by
   rw [tm, show k + 1 + m = (k + m) + 1 by omega]
   exact Rat.mul_nonneg (Rat.mul_nonneg (tm_nonneg hx k) hx) (Rat.le_of_lt (inv_nat_pos _))
theorem tm_half {m : Nat} {x : Rat} (hx : 0 ≤ x) (h2 : 2 * x ≤ 1) (k : Nat) : 2 * tm m x (k + 1) ≤ tm m x k := by
 rw [tm, show k + 1 + m = (k + m) + 1 by omega]
 have h0 := tm_nonneg (m := m) hx k
 have h1 := inv_nat_pos (k + m)
 have h3 := inv_nat_le (k + m)
 have h4 := Rat.mul_le_mul_of_nonneg_left h3 (Rat.mul_nonneg h0 hx)
 have h5 := Rat.mul_le_mul_of_nonneg_left h2 h0
 grind
theorem sm_le {m : Nat} {x : Rat} (hx : 0 ≤ x) {n N : Nat} (h : n ≤ N) : sm m x n ≤ sm m x N := by
 induction N with
 | zero => obtain rfl : n = 0 := by omega
           exact Rat.le_refl
 | succ N ih =>
   by_cases e : n = N + 1
   · subst e; exact Rat.le_refl
   · have h1 := ih (by omega)
     have h2 := tm_nonneg (m := m) hx N
     rw [sm]; grind
theorem sm_tail {m : Nat} {x : Rat} (hx : 0 ≤ x) (h2 : 2 * x ≤ 1) {n N : Nat} (h : n ≤ N) : sm m x N + 2 * tm m x N ≤ sm m x n + 2 * tm m x n := by
 induction N with
 | zero => obtain rfl : n = 0 := by omega
           exact Rat.le_refl
 | succ N ih =>
   by_cases e : n = N + 1
   · subst e; exact Rat.le_refl
   · have h1 := ih (by omega)
     have h3 := tm_half (m := m) hx h2 N
     rw [sm]; grind
theorem sm_nonneg {m : Nat} {x : Rat} (hx : 0 ≤ x) (n : Nat) : 0 ≤ sm m x n := sm_le hx (Nat.zero_le n)
theorem tm_mono {m : Nat} {x y : Rat} (hx : 0 ≤ x) (h : x ≤ y) : ∀ k, tm m x k ≤ tm m y k
 | 0 => Rat.le_refl
 | k + 1 => by
   rw [tm, tm, show k + 1 + m = (k + m) + 1 by omega]
   refine Rat.mul_le_mul_of_nonneg_right ?_ (Rat.le_of_lt (inv_nat_pos _))
   exact mul_le (tm_mono hx h k) h (tm_nonneg hx k) (Rat.le_trans hx h)
theorem sm_mono {m : Nat} {x y : Rat} (hx : 0 ≤ x) (h : x ≤ y) : ∀ n, sm m x n ≤ sm m y n
 | 0 => Rat.le_refl
 | n + 1 => by
   have h1 := sm_mono (m := m) hx h n
   have h2 := tm_mono (m := m) hx h n
   rw [sm, sm]; grind
def In (lo hi : Rat) (s : Nat → Rat) : Prop := ∃ n0, ∀ n, n0 ≤ n → lo ≤ s n ∧ s n ≤ hi
theorem In.meet {a b c d : Rat} {s : Nat → Rat} (h : In a b s) (h' : In c d s) : a ≤ d ∧ c ≤ b := by
 obtain ⟨n, hn⟩ := h
 obtain ⟨k, hk⟩ := h'
 have h1 := hn (n + k) (by omega)
 have h2 := hk (n + k) (by omega)
 constructor <;> grind
theorem In.wider {a b c d : Rat} {s : Nat → Rat} (h : In a b s) (h1 : c ≤ a) (h2 : b ≤ d) : In c d s := by
 obtain ⟨n, hn⟩ := h
 exact ⟨n, fun k hk => by have := hn k hk; constructor <;> grind⟩
theorem In.mul {a b c d : Rat} {s t : Nat → Rat} (h : In a b s) (h' : In c d t) (ha : 0 ≤ a) (hc : 0 ≤ c) : In (a * c) (b * d) (fun n => s n * t n) := by
 obtain ⟨n, hn⟩ := h
 obtain ⟨k, hk⟩ := h'
 refine ⟨n + k, fun j hj => ?_⟩
 have h1 := hn j (by omega)
 have h2 := hk j (by omega)
 exact ⟨mul_le h1.1 h2.1 ha (Rat.le_trans hc h2.1), mul_le h1.2 h2.2 (Rat.le_trans ha h1.1) (Rat.le_trans (Rat.le_trans hc h2.1) h2.2)⟩
theorem In.sum {m : Nat} {x lo hi : Rat} (hx : 0 ≤ x) (h2 : 2 * x ≤ 1) {n : Nat} (h : lo ≤ sm m x n) (h' : sm m x n + 2 * tm m x n ≤ hi) : In lo hi (sm m x) :=
 ⟨n, fun k hk => ⟨Rat.le_trans h (sm_le hx hk), by
  have h3 := sm_tail (m := m) hx h2 hk
  have h4 := tm_nonneg (m := m) hx k
  grind⟩⟩
end Exq

namespace Exq
set_option linter.unusedVariables false
def su (f : Nat → Rat) : Nat → Rat
 | 0 => 0
 | n + 1 => su f n + f n
theorem su_congr {f g : Nat → Rat} {n : Nat} (h : ∀ i, i < n → f i = g i) : su f n = su g n := by
 induction n with
 | zero => rfl
 | succ n ih => rw [su, su, ih (fun i hi => h i (by omega)), h n (by omega)]
theorem su_le {f g : Nat → Rat} {n : Nat} (h : ∀ i, i < n → f i ≤ g i) : su f n ≤ su g n := by
 induction n with
 | zero => exact Rat.le_refl
 | succ n ih =>
   have h1 := ih (fun i hi => h i (by omega))
   have h2 := h n (by omega)
   rw [su, su]; grind
theorem su_more {f : Nat → Rat} {n N : Nat} (h : n ≤ N) (h0 : ∀ i, 0 ≤ f i) : su f n ≤ su f N := by
 induction N with
 | zero => obtain rfl : n = 0 := by omega
           exact Rat.le_refl
 | succ N ih =>
   by_cases e : n = N + 1
   · subst e; exact Rat.le_refl
   · have h1 := ih (by omega)
     have h2 := h0 N
     rw [su]; grind
theorem su_add (f g : Nat → Rat) (n : Nat) : su (fun i => f i + g i) n = su f n + su g n := by
 induction n with
 | zero => show (0 : Rat) = 0 + 0; grind
 | succ n ih => rw [su, su, su, ih]; grind
theorem su_mul (c : Rat) (f : Nat → Rat) (n : Nat) : su (fun i => c * f i) n = c * su f n := by
 induction n with
 | zero => show (0 : Rat) = c * 0; grind
 | succ n ih => rw [su, su, ih]; grind
theorem su_first (f : Nat → Rat) (n : Nat) : su f (n + 1) = f 0 + su (fun i => f (i + 1)) n := by
 induction n with
 | zero => show (0 : Rat) + f 0 = f 0 + 0; grind
 | succ n ih => rw [su, ih, su]; grind
theorem sm_su (x : Rat) (n : Nat) : sm 0 x n = su (tm 0 x) n := by
 induction n with
 | zero => rfl
 | succ n ih => rw [sm, su, ih]
def cv (a b : Nat → Rat) (k : Nat) : Rat := su (fun i => a i * b (k - i)) (k + 1)
theorem cv_su (a b : Nat → Rat) (N : Nat) : su (cv a b) N = su (fun i => a i * su b (N - i)) N := by
 induction N with
 | zero => rfl
 | succ N ih =>
   have e : su (fun i => a i * su b (N + 1 - i)) (N + 1) = su (fun i => a i * su b (N - i) + a i * b (N - i)) (N + 1) := su_congr fun i hi => by
    rw [show N + 1 - i = (N - i) + 1 by omega, su]; grind
   rw [su, ih, e, su_add]
   have e2 : su (fun i => a i * su b (N - i)) (N + 1) = su (fun i => a i * su b (N - i)) N := by
    rw [su, Nat.sub_self]
    show _ + a N * 0 = _
    grind
   rw [e2]; rfl
theorem prod_le {a b : Nat → Rat} (ha : ∀ i, 0 ≤ a i) (hb : ∀ i, 0 ≤ b i) (N : Nat) : su (cv a b) N ≤ su a N * su b N := by
 rw [cv_su, Rat.mul_comm, ← su_mul]
 refine su_le fun i hi => ?_
 rw [Rat.mul_comm]
 exact Rat.mul_le_mul_of_nonneg_right (su_more (by omega) hb) (ha i)
theorem le_prod {a b : Nat → Rat} (ha : ∀ i, 0 ≤ a i) (hb : ∀ i, 0 ≤ b i) (N : Nat) : su a N * su b N ≤ su (cv a b) (2 * N) := by
 rw [cv_su, Rat.mul_comm, ← su_mul]
 have hs : ∀ n, 0 ≤ su b n := fun n => su_more (Nat.zero_le n) hb
 refine Rat.le_trans (su_le (g := fun i => a i * su b (2 * N - i)) fun i hi => ?_) (su_more (by omega) (fun i => Rat.mul_nonneg (ha i) (hs _)))
 rw [Rat.mul_comm]
 exact Rat.mul_le_mul_of_nonneg_left (su_more (by omega) hb) (ha i)
theorem tm_rec (x : Rat) (k : Nat) : ((k + 1 : Nat) : Rat) * tm 0 x (k + 1) = x * tm 0 x k := by
 have e : ((k + 1 : Nat) : Rat) * ((k + 1 : Nat) : Rat)⁻¹ = 1 := Rat.mul_inv_cancel _ (by have := Rat.natCast_pos.2 (Nat.succ_pos k); intro h; rw [show k.succ = k + 1 from rfl, h] at this; exact Rat.lt_irrefl this)
 rw [tm, Nat.add_zero]
 grind
theorem cv_rec (x y : Rat) (k : Nat) : ((k + 1 : Nat) : Rat) * cv (tm 0 x) (tm 0 y) (k + 1) = (x + y) * cv (tm 0 x) (tm 0 y) k := by
 unfold cv
 rw [← su_mul]
 have e : su (fun i => ((k + 1 : Nat) : Rat) * (tm 0 x i * tm 0 y (k + 1 - i))) (k + 1 + 1) = su (fun i => (i : Rat) * tm 0 x i * tm 0 y (k + 1 - i) + tm 0 x i * (((k + 1 - i : Nat) : Rat) * tm 0 y (k + 1 - i))) (k + 1 + 1) := su_congr fun i hi => by
  have h : ((k + 1 : Nat) : Rat) = (i : Rat) + ((k + 1 - i : Nat) : Rat) := by
   rw [← Rat.natCast_add]; congr 1; omega
  rw [h]; grind
 rw [e, su_add]
 have e1 : su (fun i => (i : Rat) * tm 0 x i * tm 0 y (k + 1 - i)) (k + 1 + 1) = x * su (fun i => tm 0 x i * tm 0 y (k - i)) (k + 1) := by
  rw [su_first, ← su_mul]
  have z : (((0 : Nat) : Rat) * tm 0 x 0 * tm 0 y (k + 1 - 0)) = 0 := by
   rw [show ((0 : Nat) : Rat) = 0 from rfl]; grind
  rw [z, Rat.zero_add]
  refine su_congr fun i hi => ?_
  rw [tm_rec, show k + 1 - (i + 1) = k - i by omega]; grind
 have e2 : su (fun i => tm 0 x i * (((k + 1 - i : Nat) : Rat) * tm 0 y (k + 1 - i))) (k + 1 + 1) = y * su (fun i => tm 0 x i * tm 0 y (k - i)) (k + 1) := by
  rw [su, ← su_mul, Nat.sub_self]
  have z : tm 0 x (k + 1) * (((0 : Nat) : Rat) * tm 0 y 0) = 0 := by
   rw [show ((0 : Nat) : Rat) = 0 from rfl]; grind
  rw [z, Rat.add_zero]
  refine su_congr fun i hi => ?_
  rw [show k + 1 - i = (k - i) + 1 by omega, tm_rec]; grind
 rw [e1, e2]; grind
theorem tm_cv (x y : Rat) : ∀ k, tm 0 (x + y) k = cv (tm 0 x) (tm 0 y) k
 | 0 => by
   show (1 : Rat) = 0 + 1 * 1
   grind
 | k + 1 => by
   have h1 := tm_rec (x + y) k
   have h2 := cv_rec x y k
   rw [← tm_cv x y k, ← h1] at h2
   have hp := Rat.natCast_pos.2 (Nat.succ_pos k)
   have h3 : ((k + 1 : Nat) : Rat) * cv (tm 0 x) (tm 0 y) (k + 1) ≤ ((k + 1 : Nat) : Rat) * tm 0 (x + y) (k + 1) := by rw [h2]; exact Rat.le_refl
   have h4 : ((k + 1 : Nat) : Rat) * tm 0 (x + y) (k + 1) ≤ ((k + 1 : Nat) : Rat) * cv (tm 0 x) (tm 0 y) (k + 1) := by rw [h2]; exact Rat.le_refl
   exact Rat.le_antisymm (Rat.le_of_mul_le_mul_left h4 hp) (Rat.le_of_mul_le_mul_left h3 hp)
theorem sm_add_le {x y : Rat} (hx : 0 ≤ x) (hy : 0 ≤ y) (n : Nat) : sm 0 (x + y) n ≤ sm 0 x n * sm 0 y n := by
 rw [sm_su, sm_su, sm_su, su_congr (fun i _ => tm_cv x y i)]
 exact prod_le (tm_nonneg hx) (tm_nonneg hy) n
theorem le_sm_add {x y : Rat} (hx : 0 ≤ x) (hy : 0 ≤ y) (n : Nat) : sm 0 x n * sm 0 y n ≤ sm 0 (x + y) (2 * n) := by
 rw [sm_su, sm_su, sm_su, su_congr (fun i _ => tm_cv x y i)]
 exact le_prod (tm_nonneg hx) (tm_nonneg hy) n
def Ex (lo hi x : Rat) : Prop := In lo hi (sm 0 x)
theorem Ex.add {a b c d x y : Rat} (hx : 0 ≤ x) (hy : 0 ≤ y) (h : Ex a b x) (h' : Ex c d y) (ha : 0 ≤ a) (hc : 0 ≤ c) : Ex (a * c) (b * d) (x + y) := by
 obtain ⟨n, hn⟩ := In.mul h h' ha hc
 refine ⟨2 * n, fun k hk => ?_⟩
 have h1 := hn n (Nat.le_refl _)
 have h2 := hn k (by omega)
 have h3 := le_sm_add hx hy n
 have h4 := sm_le (m := 0) (x := x + y) (by grind) hk
 have h5 := sm_add_le hx hy k
 constructor <;> grind
theorem Ex.sq {a b x : Rat} (hx : 0 ≤ x) (h : Ex a b x) (ha : 0 ≤ a) : Ex (a * a) (b * b) (2 * x) := by
 have := h.add hx hx h ha ha
 rw [show x + x = 2 * x by grind] at this; exact this
theorem Ex.rise {a b c d x y : Rat} (hx : 0 ≤ x) (hxy : x ≤ y) (h : Ex a b x) (h' : Ex c d y) : a ≤ d := by
 obtain ⟨n, hn⟩ := h
 obtain ⟨k, hk⟩ := h'
 have h1 := hn (n + k) (by omega)
 have h2 := hk (n + k) (by omega)
 have h3 := sm_mono (m := 0) hx hxy (n + k)
 grind
theorem Ex.sub {a b c d x y : Rat} (hx : 0 ≤ x) (hy : 0 ≤ y) (h : Ex a b (x + y)) (h' : Ex c d y) (ha : 0 ≤ a) (hc : 0 < c) : Ex (a * d⁻¹) (b * c⁻¹) x := by
 obtain ⟨n, hn⟩ := h
 obtain ⟨k, hk⟩ := h'
 have pos : ∀ j, k ≤ j → 0 < sm 0 y j := fun j hj => by have := (hk j hj).1; grind
 refine ⟨n + k, fun j hj => ?_⟩
 have h1 := hn j (by omega)
 have h2 := hk j (by omega)
 have h3 := hn (2 * j) (by omega)
 have h4 := sm_add_le hx hy j
 have h5 := le_sm_add hx hy j
 have p := pos j (by omega)
 have e : sm 0 y j * (sm 0 y j)⁻¹ = 1 := Rat.mul_inv_cancel _ (by grind)
 have ip : 0 < (sm 0 y j)⁻¹ := Rat.inv_pos.2 p
 have i1 := inv_le hc h2.1
 have i2 := inv_le p h2.2
 have s0 := sm_nonneg (m := 0) hx j
 have dp : 0 < d⁻¹ := Rat.inv_pos.2 (by grind)
 constructor
 · have q1 := mul_le (Rat.le_trans h1.1 h4) i2 ha (Rat.le_of_lt ip)
   have q2 : sm 0 x j * sm 0 y j * (sm 0 y j)⁻¹ = sm 0 x j := by grind
   rw [q2] at q1; exact q1
 · have q0 : 0 ≤ sm 0 x j * sm 0 y j := Rat.mul_nonneg s0 (Rat.le_of_lt p)
   have cp : 0 < c⁻¹ := Rat.inv_pos.2 hc
   have q1 := mul_le (Rat.le_trans h5 h3.2) i1 q0 (Rat.le_of_lt cp)
   have q2 : sm 0 x j * sm 0 y j * (sm 0 y j)⁻¹ = sm 0 x j := by grind
   have q3 := mul_le (Rat.le_trans h5 h3.2) i1 q0 (Rat.le_of_lt cp)
   rw [q2] at q3; exact q3
end Exq

namespace Exq
set_option linter.unusedVariables false
def Fi (u : Nat) (f : Nat × Nat) (y : Rat) : Prop := (f.1 : Rat) ≤ y * (u : Rat) ∧ y * (u : Rat) ≤ (f.1 : Rat) + (f.2 : Rat)
def up (a b : Nat) : Nat := a / b + if a % b = 0 then 0 else 1
theorem nat_div_le (a b : Nat) : ((a / b : Nat) : Rat) * (b : Rat) ≤ (a : Rat) := by
 rw [← Rat.natCast_mul]; exact Rat.natCast_le_natCast.2 (Nat.div_mul_le_self a b)
theorem le_up (a : Nat) {b : Nat} (hb : 0 < b) : (a : Rat) ≤ ((up a b : Nat) : Rat) * (b : Rat) := by
 rw [← Rat.natCast_mul]
 refine Rat.natCast_le_natCast.2 ?_
 have h := Nat.div_add_mod a b
 have h2 := Nat.mod_lt a hb
 unfold up
 split
 · rw [Nat.add_zero, Nat.mul_comm]; omega
 · rw [Nat.add_mul, Nat.one_mul, Nat.mul_comm]; omega
theorem up_ge (a b : Nat) : a / b ≤ up a b := Nat.le_add_right _ _
theorem up_le (a b : Nat) : up a b ≤ a / b + 1 := by unfold up; split <;> omega
def mulF (u : Nat) (x y : Nat × Nat) : Nat × Nat := (x.1 * y.1 / u, up ((x.1 + x.2) * (y.1 + y.2)) u - x.1 * y.1 / u)
def shortF (x : Nat × Nat) (d : Nat) : Nat × Nat := (x.1 / d, x.2 / d + 2)
def addF (x y : Nat × Nat) : Nat × Nat := (x.1 + y.1, x.2 + y.2)
theorem upos {u : Nat} (hu : 0 < u) : (0 : Rat) < (u : Rat) := Rat.natCast_pos.2 hu
theorem up_mono {a c b : Nat} (h : a ≤ c) : a / b ≤ up c b := Nat.le_trans (Nat.div_le_div_right h) (up_ge c b)
theorem mulF_sum (u : Nat) (x y : Nat × Nat) : (mulF u x y).1 + (mulF u x y).2 = up ((x.1 + x.2) * (y.1 + y.2)) u := by
 show x.1 * y.1 / u + (up _ u - x.1 * y.1 / u) = _
 have : x.1 * y.1 / u ≤ up ((x.1 + x.2) * (y.1 + y.2)) u := up_mono (Nat.mul_le_mul (Nat.le_add_right _ _) (Nat.le_add_right _ _))
 omega
theorem Fi.mul {u : Nat} {x y : Nat × Nat} {a b : Rat} (hu : 0 < u) (h : Fi u x a) (h' : Fi u y b) : Fi u (mulF u x y) (a * b) := by
 obtain ⟨h1, h2⟩ := h
 obtain ⟨k1, k2⟩ := h'
 have up0 := upos hu
 have n0 : ∀ n : Nat, (0 : Rat) ≤ (n : Rat) := fun n => Rat.natCast_nonneg
 constructor
 · have q := mul_le h1 k1 (n0 _) (Rat.le_trans (n0 _) k1)
   have q2 := nat_div_le (x.1 * y.1) u
   rw [Rat.natCast_mul] at q2
   have q3 : ((x.1 * y.1 / u : Nat) : Rat) * (u : Rat) ≤ (a * b * (u : Rat)) * (u : Rat) := by grind
   exact Rat.le_of_mul_le_mul_right q3 up0
 · have q := mul_le h2 k2 (Rat.le_trans (n0 _) h1) (Rat.le_trans (n0 _) (Rat.le_trans k1 k2))
   have q2 := le_up ((x.1 + x.2) * (y.1 + y.2)) hu
   rw [Rat.natCast_mul, Rat.natCast_add, Rat.natCast_add] at q2
   have q3 : (a * b * (u : Rat)) * (u : Rat) ≤ ((up ((x.1 + x.2) * (y.1 + y.2)) u : Nat) : Rat) * (u : Rat) := by grind
   have q4 := Rat.le_of_mul_le_mul_right q3 up0
   have q5 : (((mulF u x y).1 : Nat) : Rat) + (((mulF u x y).2 : Nat) : Rat) = ((up ((x.1 + x.2) * (y.1 + y.2)) u : Nat) : Rat) := by
    rw [← Rat.natCast_add, mulF_sum]
   rw [q5]; exact q4
theorem Fi.short {u : Nat} {x : Nat × Nat} {a : Rat} (d : Nat) (h : Fi u x a) : Fi u (shortF x (d + 1)) (a * ((d + 1 : Nat) : Rat)⁻¹) := by
 obtain ⟨h1, h2⟩ := h
 have dp : (0 : Rat) < ((d + 1 : Nat) : Rat) := upos (Nat.succ_pos d)
 have e : ((d + 1 : Nat) : Rat) * ((d + 1 : Nat) : Rat)⁻¹ = 1 := Rat.mul_inv_cancel _ (by grind)
 have q1 := nat_div_le x.1 (d + 1)
 have e2 : a * ((d + 1 : Nat) : Rat)⁻¹ * (u : Rat) * ((d + 1 : Nat) : Rat) = a * (u : Rat) := by
  generalize ((d + 1 : Nat) : Rat) = D at *
  grind
 constructor
 · refine Rat.le_of_mul_le_mul_right ?_ dp
   rw [e2]
   exact Rat.le_trans q1 h1
 · refine Rat.le_of_mul_le_mul_right ?_ dp
   have m1 : x.1 < (x.1 / (d + 1) + 1) * (d + 1) := by
    have := Nat.div_add_mod x.1 (d + 1); have := Nat.mod_lt x.1 (show 0 < d + 1 by omega); rw [Nat.add_mul, Nat.one_mul, Nat.mul_comm (x.1 / (d + 1))]; omega
   have m2 : x.2 < (x.2 / (d + 1) + 1) * (d + 1) := by
    have := Nat.div_add_mod x.2 (d + 1); have := Nat.mod_lt x.2 (show 0 < d + 1 by omega); rw [Nat.add_mul, Nat.one_mul, Nat.mul_comm (x.2 / (d + 1))]; omega
   have m3 : x.1 + x.2 ≤ (x.1 / (d + 1) + (x.2 / (d + 1) + 2)) * (d + 1) := by
    have : (x.1 / (d + 1) + (x.2 / (d + 1) + 2)) * (d + 1) = (x.1 / (d + 1) + 1) * (d + 1) + (x.2 / (d + 1) + 1) * (d + 1) := by rw [← Nat.add_mul]; congr 1; omega
    omega
   have m4 := Rat.natCast_le_natCast.2 m3
   rw [Rat.natCast_add, Rat.natCast_mul, Rat.natCast_add (x.1 / (d + 1))] at m4
   rw [e2]
   exact Rat.le_trans h2 m4
theorem Fi.add {u : Nat} {x y : Nat × Nat} {a b : Rat} (h : Fi u x a) (h' : Fi u y b) : Fi u (addF x y) (a + b) := by
 obtain ⟨h1, h2⟩ := h
 obtain ⟨k1, k2⟩ := h'
 constructor
 · show ((x.1 + y.1 : Nat) : Rat) ≤ _
   rw [Rat.natCast_add]; grind
 · show _ ≤ ((x.1 + y.1 : Nat) : Rat) + ((x.2 + y.2 : Nat) : Rat)
   rw [Rat.natCast_add, Rat.natCast_add]; grind
theorem Fi.zero (u : Nat) : Fi u (0, 0) 0 := by
 constructor
 · show ((0 : Nat) : Rat) ≤ 0 * _
   rw [Rat.zero_mul]; exact Rat.le_refl
 · show 0 * (u : Rat) ≤ ((0 : Nat) : Rat) + ((0 : Nat) : Rat)
   rw [Rat.zero_mul, show ((0 : Nat) : Rat) = 0 from rfl, Rat.add_zero]; exact Rat.le_refl
theorem Fi.one (u : Nat) : Fi u (u, 0) 1 := by
 constructor
 · show ((u : Nat) : Rat) ≤ 1 * _
   rw [Rat.one_mul]; exact Rat.le_refl
 · show 1 * (u : Rat) ≤ (u : Rat) + ((0 : Nat) : Rat)
   rw [show ((0 : Nat) : Rat) = 0 from rfl]; grind
def teF (u : Nat) (x : Nat × Nat) (m : Nat) : Nat → Nat × Nat
 | 0 => (u, 0)
 | k + 1 => shortF (mulF u (teF u x m k) x) (k + 1 + m)
theorem Fi.term {u : Nat} {x : Nat × Nat} {a : Rat} (hu : 0 < u) (m : Nat) (h : Fi u x a) : ∀ k, Fi u (teF u x m k) (tm m a k)
 | 0 => Fi.one u
 | k + 1 => by
   have h1 := Fi.short (k + m) (Fi.mul hu (Fi.term hu m h k) h)
   rw [show k + m + 1 = k + 1 + m by omega] at h1
   exact h1
def seF (u : Nat) (x : Nat × Nat) (m : Nat) : Nat → Nat × Nat
 | 0 => (0, 0)
 | n + 1 => addF (seF u x m n) (teF u x m n)
theorem Fi.sums {u : Nat} {x : Nat × Nat} {a : Rat} (hu : 0 < u) (m : Nat) (h : Fi u x a) : ∀ n, Fi u (seF u x m n) (sm m a n)
 | 0 => Fi.zero u
 | n + 1 => Fi.add (Fi.sums hu m h n) (Fi.term hu m h n)
theorem te_small {u : Nat} {x : Nat × Nat} (hu : 256 ≤ u) (m : Nat) (hx : 256 * x.1 ≤ u) (hx2 : x.2 ≤ 1) : ∀ k, 256 * (teF u x m (k + 1)).1 ≤ (teF u x m k).1 ∧ (teF u x m k).1 ≤ u ∧ (teF u x m k).2 ≤ 6 := by
 have step : ∀ k, (teF u x m k).1 ≤ u → (teF u x m k).2 ≤ 6 → 256 * (teF u x m (k + 1)).1 ≤ (teF u x m k).1 ∧ (teF u x m (k + 1)).2 ≤ 6 := by
  intro k h1 h2
  obtain ⟨t, ht⟩ : ∃ t, t = teF u x m k := ⟨_, rfl⟩
  show 256 * (shortF (mulF u (teF u x m k) x) (k + 1 + m)).1 ≤ _ ∧ (shortF (mulF u (teF u x m k) x) (k + 1 + m)).2 ≤ 6
  rw [← ht] at h1 h2 ⊢
  clear ht
  have d1 : ∀ n, n / (k + 1 + m) ≤ n := fun n => Nat.div_le_self _ _
  have a1 : 256 * (t.1 * x.1 / u) ≤ t.1 := by
   have q1 : t.1 * x.1 / u ≤ t.1 * x.1 / u := Nat.le_refl _
   have q2 := Nat.div_mul_le_self (t.1 * x.1) u
   have q3 : t.1 * (256 * x.1) ≤ t.1 * u := Nat.mul_le_mul_left _ hx
   have q4 : 256 * (t.1 * x.1 / u) * u ≤ t.1 * u := by
    rw [Nat.mul_assoc]
    have : 256 * (t.1 * x.1 / u * u) ≤ 256 * (t.1 * x.1) := Nat.mul_le_mul_left _ q2
    have e : 256 * (t.1 * x.1) = t.1 * (256 * x.1) := by rw [Nat.mul_left_comm]
    omega
   exact Nat.le_of_mul_le_mul_right q4 (by omega)
  have a2 : up ((t.1 + t.2) * (x.1 + x.2)) u - t.1 * x.1 / u ≤ 4 := by
   have q1 := up_le ((t.1 + t.2) * (x.1 + x.2)) u
   have q2 : (t.1 + t.2) * (x.1 + x.2) ≤ t.1 * x.1 + 2 * u := by
    have e : (t.1 + t.2) * (x.1 + x.2) = t.1 * x.1 + (t.1 * x.2 + t.2 * x.1 + t.2 * x.2) := by rw [Nat.add_mul, Nat.mul_add, Nat.mul_add]; omega
    have r1 : t.1 * x.2 ≤ t.1 * 1 := Nat.mul_le_mul_left _ hx2
    have r2 : t.2 * x.1 ≤ 6 * x.1 := Nat.mul_le_mul_right _ h2
    have r3 : t.2 * x.2 ≤ 6 * 1 := Nat.mul_le_mul h2 hx2
    omega
   have q3 : (t.1 + t.2) * (x.1 + x.2) / u ≤ (t.1 * x.1 + 2 * u) / u := Nat.div_le_div_right q2
   rw [Nat.add_mul_div_right _ _ (by omega)] at q3
   omega
  constructor
  · show 256 * (t.1 * x.1 / u / (k + 1 + m)) ≤ t.1
    have := d1 (t.1 * x.1 / u); omega
  · show (up ((t.1 + t.2) * (x.1 + x.2)) u - t.1 * x.1 / u) / (k + 1 + m) + 2 ≤ 6
    have := d1 (up ((t.1 + t.2) * (x.1 + x.2)) u - t.1 * x.1 / u); omega
 have both : ∀ k, (teF u x m k).1 ≤ u ∧ (teF u x m k).2 ≤ 6 := by
  intro k
  induction k with
  | zero => exact ⟨Nat.le_refl _, Nat.zero_le _⟩
  | succ k ih => have := step k ih.1 ih.2; exact ⟨by omega, this.2⟩
 exact fun k => ⟨(step k (both k).1 (both k).2).1, both k⟩
end Exq

namespace Exq
set_option linter.unusedVariables false
theorem div_mul {q : Rat} {u : Nat} (hu : 0 < u) : q * (u : Rat) * (u : Rat)⁻¹ = q := by
 have e : (u : Rat) * (u : Rat)⁻¹ = 1 := Rat.mul_inv_cancel _ (by have := upos hu; grind)
 grind
theorem le_of_u {a b : Rat} {u : Nat} (hu : 0 < u) (h : a ≤ b * (u : Rat)) : a * (u : Rat)⁻¹ ≤ b := by
 have := Rat.mul_le_mul_of_nonneg_right h (Rat.le_of_lt (Rat.inv_pos.2 (upos hu)))
 rw [div_mul hu] at this; exact this
theorem ge_of_u {a b : Rat} {u : Nat} (hu : 0 < u) (h : b * (u : Rat) ≤ a) : b ≤ a * (u : Rat)⁻¹ := by
 have := Rat.mul_le_mul_of_nonneg_right h (Rat.le_of_lt (Rat.inv_pos.2 (upos hu)))
 rw [div_mul hu] at this; exact this
theorem se_first {u : Nat} {x : Nat × Nat} {m n : Nat} (hn : 0 < n) : u ≤ (seF u x m n).1 := by
 induction n with
 | zero => omega
 | succ n ih =>
   show u ≤ (seF u x m n).1 + (teF u x m n).1
   by_cases h0 : n = 0
   · subst h0; exact Nat.le_add_left _ _
   · have := ih (by omega); omega
theorem se_err {u : Nat} {x : Nat × Nat} (hu : 256 ≤ u) (m : Nat) (hx : 256 * x.1 ≤ u) (hx2 : x.2 ≤ 1) (n : Nat) : (seF u x m n).2 ≤ 6 * n := by
 induction n with
 | zero => exact Nat.le_refl _
 | succ n ih =>
   have := (te_small hu m hx hx2 n).2.2
   show (seF u x m n).2 + (teF u x m n).2 ≤ _
   omega
theorem se_top {u : Nat} {x : Nat × Nat} (hu : 256 ≤ u) (m : Nat) (hx : 256 * x.1 ≤ u) (hx2 : x.2 ≤ 1) (n : Nat) : (seF u x m n).1 + 2 * (teF u x m n).1 ≤ 2 * u := by
 induction n with
 | zero => show 0 + 2 * u ≤ 2 * u; omega
 | succ n ih =>
   have := (te_small hu m hx hx2 n).1
   show (seF u x m n).1 + (teF u x m n).1 + 2 * (teF u x m (n + 1)).1 ≤ _
   omega
theorem te_pow {u : Nat} {x : Nat × Nat} (hu : 256 ≤ u) (m : Nat) (hx : 256 * x.1 ≤ u) (hx2 : x.2 ≤ 1) (k : Nat) : 2 ^ (8 * k) * (teF u x m k).1 ≤ u := by
 induction k with
 | zero => show 2 ^ (8 * 0) * u ≤ u; omega
 | succ k ih =>
   have h := (te_small hu m hx hx2 k).1
   have e : 2 ^ (8 * (k + 1)) * (teF u x m (k + 1)).1 = 2 ^ (8 * k) * (256 * (teF u x m (k + 1)).1) := by
    rw [show 8 * (k + 1) = 8 * k + 8 by omega, Nat.pow_add, Nat.mul_assoc]
   rw [e]
   exact Nat.le_trans (Nat.mul_le_mul_left _ h) ih
theorem te_count {w k : Nat} {x : Nat × Nat} (hw : 8 ≤ w) (m : Nat) (hx : 256 * x.1 ≤ 2 ^ w) (hx2 : x.2 ≤ 1) (h0 : (teF (2 ^ w) x m k).1 ≠ 0) : 8 * k ≤ w := by
 have hu : 256 ≤ 2 ^ w := Nat.pow_le_pow_right (show 0 < 2 by decide) hw
 have h := te_pow hu m hx hx2 k
 have h1 : 2 ^ (8 * k) ≤ 2 ^ w := Nat.le_trans (Nat.le_mul_of_pos_right _ (Nat.pos_of_ne_zero h0)) h
 exact (Nat.pow_le_pow_iff_right (by decide)).1 h1
theorem se_encl {u m n : Nat} {x : Nat × Nat} {a : Rat} (hu : 256 ≤ u) (h : Fi u x a) (h0 : 0 ≤ a) (h2 : 2 * a ≤ 1) (hn : (teF u x m n).1 = 0) {E : Nat} (hE : (seF u x m n).2 + 2 * (teF u x m n).2 ≤ E) :
 In (((seF u x m n).1 : Rat) * (u : Rat)⁻¹) ((((seF u x m n).1 + E : Nat) : Rat) * (u : Rat)⁻¹) (sm m a) := by
 have hu0 : 0 < u := by omega
 have hs := Fi.sums hu0 m h n
 have ht := Fi.term hu0 m h n
 refine In.sum (n := n) h0 h2 (le_of_u hu0 hs.1) (ge_of_u hu0 ?_)
 have q1 := hs.2
 have q2 := ht.2
 rw [hn] at q2
 have q3 := Rat.natCast_le_natCast.2 hE
 rw [Rat.natCast_add, Rat.natCast_mul] at q3
 rw [Rat.natCast_add]
 rw [show ((0 : Nat) : Rat) = 0 from rfl] at q2
 rw [show ((2 : Nat) : Rat) = 2 from rfl] at q3
 grind
def evF (u : Nat) (x : Nat × Nat) (m : Nat) : Nat → Nat × Nat
 | 0 => (0, 0)
 | n + 1 => if n % 2 = 0 then addF (evF u x m n) (teF u x m n) else evF u x m n
def odF (u : Nat) (x : Nat × Nat) (m : Nat) : Nat → Nat × Nat
 | 0 => (0, 0)
 | n + 1 => if n % 2 = 0 then odF u x m n else addF (odF u x m n) (teF u x m n)
theorem ev_od (u : Nat) (x : Nat × Nat) (m n : Nat) : addF (evF u x m n) (odF u x m n) = seF u x m n := by
 induction n with
 | zero => rfl
 | succ n ih =>
   show addF (if n % 2 = 0 then addF (evF u x m n) (teF u x m n) else evF u x m n) (if n % 2 = 0 then odF u x m n else addF (odF u x m n) (teF u x m n)) = addF (seF u x m n) (teF u x m n)
   rw [← ih]
   unfold addF
   split
   · simp only [Prod.mk.injEq]; omega
   · simp only [Prod.mk.injEq]; omega
end Exq

namespace Exq
set_option linter.unusedVariables false
def ep (p : Nat) : Rat := ((2 ^ p : Nat) : Rat)⁻¹ * 2
theorem ep_pos (p : Nat) : 0 < ep p := Rat.mul_pos (Rat.inv_pos.2 (upos (Nat.two_pow_pos p))) (by grind)
theorem ep_succ (p : Nat) : 2 * ep (p + 1) = ep p := by
 have e1 : ((2 ^ (p + 1) : Nat) : Rat) = ((2 ^ p : Nat) : Rat) * 2 := by rw [Nat.pow_succ, Rat.natCast_mul]; rfl
 have h1 := upos (Nat.two_pow_pos p)
 have h2 := upos (Nat.two_pow_pos (p + 1))
 unfold ep
 have i1 := Rat.mul_inv_cancel ((2 ^ p : Nat) : Rat) (by grind)
 have i2 := Rat.mul_inv_cancel ((2 ^ (p + 1) : Nat) : Rat) (by grind)
 rw [e1] at i2 ⊢
 generalize ((2 ^ p : Nat) : Rat) = P at *
 have : (P * 2)⁻¹ * 2 = P⁻¹ := by grind
 grind
theorem ep_add (p k : Nat) : ((2 ^ k : Nat) : Rat) * ep (p + k) = ep p := by
 induction k with
 | zero => show (1 : Rat) * ep p = _; rw [Rat.one_mul]
 | succ k ih =>
   have e1 : ((2 ^ (k + 1) : Nat) : Rat) = ((2 ^ k : Nat) : Rat) * 2 := by rw [Nat.pow_succ, Rat.natCast_mul]; rfl
   have h := ep_succ (p + k)
   rw [e1, show p + (k + 1) = p + k + 1 by omega, Rat.mul_assoc, h, ih]
theorem ep_le {p q : Nat} (h : p ≤ q) : ep q ≤ ep p := by
 obtain ⟨k, rfl⟩ : ∃ k, q = p + k := ⟨q - p, by omega⟩
 rw [← ep_add p k]
 have h1 := ep_pos (p + k)
 have h2 : (1 : Rat) ≤ ((2 ^ k : Nat) : Rat) := Rat.natCast_le_natCast.2 (show 1 ≤ 2 ^ k from Nat.two_pow_pos k)
 have := Rat.mul_le_mul_of_nonneg_right h2 (Rat.le_of_lt h1)
 rw [Rat.one_mul] at this; exact this
def Nar (lo hi d : Rat) : Prop := 0 < lo ∧ hi ≤ lo * (1 + d)
theorem Nar.more {lo hi d d' : Rat} (h : Nar lo hi d) (hd : d ≤ d') : Nar lo hi d' := by
 refine ⟨h.1, Rat.le_trans h.2 (Rat.mul_le_mul_of_nonneg_left ?_ (Rat.le_of_lt h.1))⟩
 grind
def Dn (x c e : Rat) : Prop := c ≤ x ∧ x * (1 - e) ≤ c
def Up (x c e : Rat) : Prop := x ≤ c ∧ c ≤ x * (1 + e)
theorem Nar.cut {lo hi d l h e : Rat} (n : Nar lo hi d) (hl : Dn lo l e) (hh : Up hi h e) (h0 : 0 ≤ d) (h1 : d ≤ 1) (e0 : 0 ≤ e) (e1 : 8 * e ≤ 1) : Nar l h (d + 5 * e) := by
 obtain ⟨p, q⟩ := n
 obtain ⟨a1, a2⟩ := hl
 obtain ⟨b1, b2⟩ := hh
 have ed : e * d ≤ e := by have := Rat.mul_le_mul_of_nonneg_left h1 e0; grind
 have ee : 8 * (e * e) ≤ e := by have := Rat.mul_le_mul_of_nonneg_left e1 e0; grind
 have e2 : 0 < 1 - e := by grind
 have lp : 0 < l := by have := Rat.mul_pos p e2; grind
 refine ⟨lp, ?_⟩
 -- (1 + d) (1 + e) ≤ (1 - e) (1 + d + 5 e)
 have key : (1 + d) * (1 + e) ≤ (1 - e) * (1 + (d + 5 * e)) := by grind
 have s1 := Rat.mul_le_mul_of_nonneg_right q (show 0 ≤ 1 + e by grind)
 have s2 := Rat.mul_le_mul_of_nonneg_left key (Rat.le_of_lt p)
 have s3 := Rat.mul_le_mul_of_nonneg_right a2 (show 0 ≤ 1 + (d + 5 * e) by grind)
 grind
theorem Nar.mul {a b c d p q : Rat} (n : Nar a b p) (m : Nar c d q) (hd : 0 ≤ d) (p0 : 0 ≤ p) (p1 : p ≤ 1) (q0 : 0 ≤ q) : Nar (a * c) (b * d) (p + 2 * q) := by
 obtain ⟨n1, n2⟩ := n
 obtain ⟨m1, m2⟩ := m
 refine ⟨Rat.mul_pos n1 m1, ?_⟩
 have h1 := Rat.mul_le_mul_of_nonneg_right n2 hd
 have h2 := Rat.mul_le_mul_of_nonneg_left m2 (show 0 ≤ a * (1 + p) from Rat.mul_nonneg (Rat.le_of_lt n1) (by grind))
 have pq : q * p ≤ q := by have := Rat.mul_le_mul_of_nonneg_left p1 q0; grind
 have key : (1 + p) * (1 + q) ≤ 1 + (p + 2 * q) := by grind
 have h3 := Rat.mul_le_mul_of_nonneg_left key (Rat.le_of_lt (Rat.mul_pos n1 m1))
 grind
theorem Nar.inv {a b p : Rat} (n : Nar a b p) (hb : a ≤ b) : Nar b⁻¹ a⁻¹ p := by
 obtain ⟨n1, n2⟩ := n
 have hb0 : 0 < b := by grind
 have e1 := Rat.mul_inv_cancel a (by grind)
 have e2 := Rat.mul_inv_cancel b (by grind)
 have i1 := Rat.inv_pos.2 n1
 have i2 := Rat.inv_pos.2 hb0
 refine ⟨i2, ?_⟩
 have := Rat.mul_le_mul_of_nonneg_right n2 (Rat.le_of_lt (Rat.mul_pos i1 i2))
 have s1 : b * (a⁻¹ * b⁻¹) = a⁻¹ := by grind
 have s2 : a * (1 + p) * (a⁻¹ * b⁻¹) = b⁻¹ * (1 + p) := by grind
 rw [s1, s2] at this; exact this
theorem Nar.sq {lo hi d l h e : Rat} (n : Nar lo hi d) (hlh : lo ≤ hi) (hl : Dn (lo * lo) l e) (hh : Up (hi * hi) h e) (h1 : 8 * d ≤ 1) (e0 : 0 ≤ e) (e1 : 8 * e ≤ d) : Nar l h (4 * d) := by
 have d0 : 0 ≤ d := by grind
 have hp : 0 ≤ hi := by have := n.1; grind
 have m := Nar.mul n n hp d0 (by grind) d0
 have := Nar.cut m hl hh (by grind) (by grind) e0 (by grind)
 exact this.more (by grind)
end Exq

namespace Exq
set_option linter.unusedVariables false
theorem Ex.wider {a b c d x : Rat} (h : Ex a b x) (h1 : c ≤ a) (h2 : b ≤ d) : Ex c d x := In.wider h h1 h2
theorem Ex.zero : Ex 1 1 0 := by
 have e : ∀ n, 1 ≤ n → sm 0 0 n = 1 := by
  intro n hn
  induction n with
  | zero => omega
  | succ n ih =>
    by_cases h0 : n = 0
    · subst h0; show (0 : Rat) + 1 = 1; grind
    · have h1 := ih (by omega)
      obtain ⟨k, rfl⟩ : ∃ k, n = k + 1 := ⟨n - 1, by omega⟩
      rw [sm, h1, tm]; grind
 exact ⟨1, fun n hn => by rw [e n hn]; exact ⟨Rat.le_refl, Rat.le_refl⟩⟩
theorem Ex.one : Ex (27 / 10) (11 / 4) 1 := by
 have h : Ex (1648 / 1000) (1650 / 1000) (1 / 2) :=
  In.sum (n := 5) (by decide +kernel) (by decide +kernel) (by decide +kernel) (by decide +kernel)
 have h2 := h.sq (by decide +kernel) (by decide +kernel)
 rw [show (2 : Rat) * (1 / 2) = 1 by decide +kernel] at h2
 exact h2.wider (by decide +kernel) (by decide +kernel)
theorem Ex.nat : ∀ n : Nat, Ex ((27 / 10) ^ n) ((11 / 4) ^ n) (n : Rat)
 | 0 => by rw [Rat.pow_zero, Rat.pow_zero]; exact Ex.zero
 | n + 1 => by
   have h := (Ex.nat n).add (Rat.natCast_nonneg) (show (0 : Rat) ≤ 1 by decide +kernel) Ex.one (Rat.pow_nonneg (by decide +kernel)) (by decide +kernel)
   rw [← Rat.pow_succ, ← Rat.pow_succ] at h
   rw [Rat.natCast_add]; exact h
theorem Ex.le_pow {a b x : Rat} {n : Nat} (h0 : 0 ≤ x) (hn : x ≤ (n : Rat)) (h : Ex a b x) : a ≤ (11 / 4) ^ n := Ex.rise h0 hn h (Ex.nat n)
theorem Ex.ge_one {a b x : Rat} (h0 : 0 ≤ x) (h : Ex a b x) : 1 ≤ b := Ex.rise Rat.le_refl h0 Ex.zero h
theorem Ex.ge_add {a b x : Rat} (h0 : 0 ≤ x) (h : Ex a b x) : 1 + x ≤ b := by
 obtain ⟨n, hn⟩ := h
 have h1 := (hn (n + 2) (by omega)).2
 have h2 := sm_le (m := 0) h0 (show 2 ≤ n + 2 by omega)
 have e : sm 0 x 2 = 1 + x := by
  show (0 : Rat) + 1 + 1 * x * ((0 + 1 + 0 : Nat) : Rat)⁻¹ = 1 + x
  rw [show ((0 + 1 + 0 : Nat) : Rat) = 1 from rfl]
  have : (1 : Rat)⁻¹ = 1 := by decide +kernel
  rw [this]; grind
 rw [e] at h2
 exact Rat.le_trans h2 h1
theorem tm_less (x : Rat) : ∀ k, tm 0 x (k + 1) = x * tm 1 x k
 | 0 => by
   show 1 * x * ((0 + 1 + 0 : Nat) : Rat)⁻¹ = x * 1
   rw [show ((0 + 1 + 0 : Nat) : Rat) = 1 from rfl]
   have : (1 : Rat)⁻¹ = 1 := by decide +kernel
   rw [this]; grind
 | k + 1 => by
   rw [tm, tm_less x k, tm, show k + 1 + 1 + 0 = k + 1 + 1 by omega]
   generalize ((k + 1 + 1 : Nat) : Rat)⁻¹ = c
   grind
theorem sm_less (x : Rat) : ∀ n, sm 0 x (n + 1) = 1 + x * sm 1 x n
 | 0 => by show (0 : Rat) + 1 = 1 + x * 0; grind
 | n + 1 => by
   rw [sm, sm_less x n, tm_less, sm]; grind
theorem Ex.less {a b x : Rat} (h0 : 0 ≤ x) (h : In a b (sm 1 x)) : Ex (1 + x * a) (1 + x * b) x := by
 obtain ⟨n, hn⟩ := h
 refine ⟨n + 1, fun k hk => ?_⟩
 obtain ⟨j, rfl⟩ : ∃ j, k = j + 1 := ⟨k - 1, by omega⟩
 have h1 := hn j (by omega)
 rw [sm_less]
 have h2 := Rat.mul_le_mul_of_nonneg_left h1.1 h0
 have h3 := Rat.mul_le_mul_of_nonneg_left h1.2 h0
 constructor <;> grind
def Exs (lo hi x : Rat) : Prop := 0 < lo ∧ lo ≤ hi ∧ ((0 ≤ x ∧ Ex lo hi x) ∨ (x ≤ 0 ∧ Ex hi⁻¹ lo⁻¹ (-x)))
theorem inv_inv_le {a b : Rat} (h0 : 0 < a) (h : a⁻¹ ≤ b) : b⁻¹ ≤ a := by
 have := inv_le (Rat.inv_pos.2 h0) h
 rw [Rat.inv_inv] at this; exact this
theorem Exs.neg {lo hi x : Rat} (h : Exs lo hi x) : Exs hi⁻¹ lo⁻¹ (-x) := by
 obtain ⟨h1, h2, h3⟩ := h
 have h4 : 0 < hi := by grind
 refine ⟨Rat.inv_pos.2 h4, inv_le h1 h2, ?_⟩
 rcases h3 with ⟨h5, h6⟩ | ⟨h5, h6⟩
 · exact .inr ⟨by grind, by rw [Rat.inv_inv, Rat.inv_inv, Rat.neg_neg]; exact h6⟩
 · exact .inl ⟨by grind, h6⟩
theorem Ex.of_zero {a b : Rat} (h : Ex a b 0) : a ≤ 1 ∧ 1 ≤ b := by
 have := In.meet h Ex.zero
 exact ⟨this.1, this.2⟩
theorem Exs.pos {lo hi x : Rat} (h : Exs lo hi x) (h0 : 0 ≤ x) : Ex lo hi x := by
 obtain ⟨h1, h2, h3⟩ := h
 rcases h3 with ⟨-, h6⟩ | ⟨h5, h6⟩
 · exact h6
 · have e : x = 0 := by grind
   subst e
   rw [show (-0 : Rat) = 0 by decide +kernel] at h6
   have h7 := h6.of_zero
   have e1 : (1 : Rat)⁻¹ = 1 := by decide +kernel
   have q1 := inv_inv_le (show 0 < hi by grind) h7.1
   have hp : 0 < lo⁻¹ := Rat.inv_pos.2 h1
   have q2 := inv_le (show (0 : Rat) < 1 by decide +kernel) h7.2
   rw [Rat.inv_inv, e1] at q2
   rw [e1] at q1
   exact Ex.zero.wider q2 q1
theorem Exs.rise {a b c d x y : Rat} (h : Exs a b x) (h' : Exs c d y) (hxy : x ≤ y) : a ≤ d := by
 by_cases hx : 0 ≤ x
 · exact Ex.rise hx hxy (h.pos hx) (h'.pos (by grind))
 · have hx' : 0 ≤ -x := by grind
   have k := h.neg.pos hx'
   by_cases hy : 0 ≤ y
   · have k2 := h'.pos hy
     have q1 := Ex.ge_one hx' k
     have q2 := Ex.ge_one hy k2
     have e1 : (1 : Rat)⁻¹ = 1 := by decide +kernel
     have q3 := inv_le (show (0 : Rat) < 1 by decide +kernel) q1
     rw [Rat.inv_inv, e1] at q3
     exact Rat.le_trans q3 q2
   · have k2 := h'.neg.pos (show 0 ≤ -y by grind)
     have q := Ex.rise (show 0 ≤ -y by grind) (show -y ≤ -x by grind) k2 k
     have hd : 0 < d := by have := h'.1; have := h'.2.1; grind
     have q2 := inv_le (Rat.inv_pos.2 hd) q
     rw [Rat.inv_inv, Rat.inv_inv] at q2
     exact q2
theorem Exs.meet {a b c d x : Rat} (h : Exs a b x) (h' : Exs c d x) : a ≤ d ∧ c ≤ b := ⟨h.rise h' Rat.le_refl, h'.rise h Rat.le_refl⟩
end Exq

namespace Exq
set_option linter.unusedVariables false
theorem inv_mul (a b : Rat) : (a * b)⁻¹ = a⁻¹ * b⁻¹ := by rw [Rat.inv_mul_rev, Rat.mul_comm]
theorem mul_le' {a b c d : Rat} (h : a ≤ b) (h2 : c ≤ d) (ha : 0 < a) (hc : 0 < c) : a * c ≤ b * d := mul_le h h2 (Rat.le_of_lt ha) (by grind)
theorem Exs.add_mixed {a b c d x y : Rat} (h : Exs a b x) (h' : Exs c d y) (hx : 0 ≤ x) (hy : y ≤ 0) : Exs (a * c) (b * d) (x + y) := by
 have k := h.pos hx
 have k' := h'.neg.pos (show 0 ≤ -y by grind)
 have p1 := h.1
 have p2 := h'.1
 have p3 : 0 < b := by have := h.2.1; grind
 have p4 : 0 < d := by have := h'.2.1; grind
 refine ⟨Rat.mul_pos p1 p2, mul_le' h.2.1 h'.2.1 p1 p2, ?_⟩
 by_cases hs : 0 ≤ x + y
 · refine .inl ⟨hs, ?_⟩
   have q := Ex.sub (x := x + y) (y := -y) hs (by grind) (by rw [show x + y + -y = x by grind]; exact k) k' (Rat.le_of_lt p1) (Rat.inv_pos.2 p4)
   rw [Rat.inv_inv, Rat.inv_inv] at q; exact q
 · refine .inr ⟨by grind, ?_⟩
   have q := Ex.sub (x := -(x + y)) (y := x) (by grind) hx (by rw [show -(x + y) + x = -y by grind]; exact k') k (Rat.le_of_lt (Rat.inv_pos.2 p4)) p1
   rw [inv_mul, inv_mul, Rat.mul_comm b⁻¹, Rat.mul_comm a⁻¹]; exact q
theorem Exs.add {a b c d x y : Rat} (h : Exs a b x) (h' : Exs c d y) : Exs (a * c) (b * d) (x + y) := by
 have p1 := h.1
 have p2 := h'.1
 have p3 : 0 < b := by have := h.2.1; grind
 have p4 : 0 < d := by have := h'.2.1; grind
 by_cases hx : 0 ≤ x
 · by_cases hy : 0 ≤ y
   · exact ⟨Rat.mul_pos p1 p2, mul_le' h.2.1 h'.2.1 p1 p2, .inl ⟨by grind, (h.pos hx).add hx hy (h'.pos hy) (Rat.le_of_lt p1) (Rat.le_of_lt p2)⟩⟩
   · exact h.add_mixed h' hx (by grind)
 · by_cases hy : 0 ≤ y
   · have q := h'.add_mixed h hy (by grind)
     rw [Rat.mul_comm c, Rat.mul_comm d, Rat.add_comm y] at q; exact q
   · refine ⟨Rat.mul_pos p1 p2, mul_le' h.2.1 h'.2.1 p1 p2, .inr ⟨by grind, ?_⟩⟩
     have q := (h.neg.pos (show 0 ≤ -x by grind)).add (show 0 ≤ -x by grind) (show 0 ≤ -y by grind) (h'.neg.pos (show 0 ≤ -y by grind)) (Rat.le_of_lt (Rat.inv_pos.2 p3)) (Rat.le_of_lt (Rat.inv_pos.2 p4))
     rw [inv_mul, inv_mul, show -(x + y) = -x + -y by grind]; exact q
theorem Exs.zero {a b : Rat} (h : Exs a b 0) : a ≤ 1 ∧ 1 ≤ b := (h.pos Rat.le_refl).of_zero
theorem Exs.over {a b c d x : Rat} (h : Exs a b x) (h' : Exs c d (-x)) : a * c ≤ 1 ∧ 1 ≤ b * d := by
 have q := h.add h'
 rw [show x + -x = 0 by grind] at q
 exact q.zero
theorem tm_geo {x : Rat} (hx : 0 ≤ x) (k : Nat) : tm 0 x (k + 1) ≤ x * tm 0 x k := by
 rw [tm, Nat.add_zero]
 have h0 := tm_nonneg (m := 0) hx k
 have := Rat.mul_le_mul_of_nonneg_left (inv_nat_le k) (Rat.mul_nonneg h0 hx)
 grind
theorem sm_geo {x : Rat} (hx : 0 ≤ x) : ∀ n, sm 0 x (n + 1) ≤ 1 + x * sm 0 x n
 | 0 => by show (0 : Rat) + 1 ≤ 1 + x * 0; grind
 | n + 1 => by
   have h1 := sm_geo hx n
   have h2 := tm_geo hx n
   have e1 : sm 0 x (n + 1 + 1) = sm 0 x (n + 1) + tm 0 x (n + 1) := rfl
   have e2 : sm 0 x (n + 1) = sm 0 x n + tm 0 x n := rfl
   rw [e1]
   have e3 : x * sm 0 x (n + 1) = x * sm 0 x n + x * tm 0 x n := by rw [e2]; grind
   rw [e3]; grind
theorem Ex.geo {a b x : Rat} (hx : 0 ≤ x) (h : Ex a b x) (h1 : x ≤ 1) : a * (1 - x) ≤ 1 := by
 obtain ⟨n, hn⟩ := h
 have q := (hn (n + 1) (by omega)).1
 have q2 := sm_geo hx n
 have q3 := sm_le (m := 0) hx (show n ≤ n + 1 by omega)
 have q4 := Rat.mul_le_mul_of_nonneg_left q3 hx
 have q5 := Rat.mul_le_mul_of_nonneg_right q (show 0 ≤ 1 - x by grind)
 grind
theorem Exs.ge_add {a b x : Rat} (h : Exs a b x) : 1 + x ≤ b := by
 have p : 0 < b := by have := h.1; have := h.2.1; grind
 by_cases hx : 0 ≤ x
 · exact Ex.ge_add hx (h.pos hx)
 · by_cases h1 : -x ≤ 1
   · have q := Ex.geo (show 0 ≤ -x by grind) (h.neg.pos (show 0 ≤ -x by grind)) h1
     have q2 := Rat.mul_le_mul_of_nonneg_left q (Rat.le_of_lt p)
     have e := Rat.mul_inv_cancel b (by grind)
     have e2 : b * (b⁻¹ * (1 - -x)) = 1 - -x := by grind
     rw [e2] at q2
     grind
   · grind
theorem Exs.of_quot {u1 u2 e1 e2 u : Rat} (hu : 0 ≤ u) (h : Ex (1 + u1) (1 + u2) u) (k : Ex e1 e2 u) (h1 : 0 < u1) (he : 1 ≤ e1) (hlt : u2 < e1) : Exs (1 - u2 * e1⁻¹) (1 - u1 * e2⁻¹) (-u) := by
 obtain ⟨n, hn⟩ := h
 obtain ⟨m, hm⟩ := k
 have pe : 0 < e1 := by grind
 have hj := hn (n + m) (by omega)
 have kj := hm (n + m) (by omega)
 have e12 : e1 ≤ e2 := Rat.le_trans kj.1 kj.2
 have u12 : u1 ≤ u2 := by grind
 have pe2 : 0 < e2 := by grind
 have i1 := Rat.mul_inv_cancel e1 (by grind)
 have i2 := Rat.mul_inv_cancel e2 (by grind)
 have ip1 := Rat.inv_pos.2 pe
 have ip2 := Rat.inv_pos.2 pe2
 have a1 : u2 * e1⁻¹ < 1 := by
  have := Rat.mul_lt_mul_of_pos_right hlt ip1
  rw [i1] at this; exact this
 have a2 : u1 * e2⁻¹ ≤ u2 * e1⁻¹ := mul_le u12 (inv_le pe e12) (Rat.le_of_lt h1) (Rat.le_of_lt ip1)
 have p1 : 0 < 1 - u2 * e1⁻¹ := by grind
 refine ⟨p1, by grind, .inr ⟨by grind, ?_⟩⟩
 rw [Rat.neg_neg]
 refine ⟨n + m, fun j hjj => ?_⟩
 have hq := hn j (by omega)
 have kq := hm j (by omega)
 generalize sm 0 u j = s at *
 have ps : 0 < s := by grind
 have is1 := Rat.mul_inv_cancel s (by grind)
 have isp := Rat.inv_pos.2 ps
 -- 1 / s = 1 - (s - 1) / s
 have e : s⁻¹ = 1 - (s - 1) * s⁻¹ := by grind
 have l1 : (s - 1) * s⁻¹ ≤ u2 * e1⁻¹ := mul_le (by grind) (inv_le pe kq.1) (by grind) (Rat.le_of_lt ip1)
 have l2 : u1 * e2⁻¹ ≤ (s - 1) * s⁻¹ := mul_le (by grind) (inv_le ps kq.2) (Rat.le_of_lt h1) (Rat.le_of_lt isp)
 have m1 : 1 - u2 * e1⁻¹ ≤ s⁻¹ := by grind
 have m2 : s⁻¹ ≤ 1 - u1 * e2⁻¹ := by grind
 have r1 := inv_le p1 m1
 have r2 := inv_le isp m2
 rw [Rat.inv_inv] at r1 r2
 exact ⟨r2, r1⟩
end Exq

namespace Exq
set_option linter.unusedVariables false
theorem two_ne : (2 : Rat) ≠ 0 := by decide +kernel
theorem two_pos : (0 : Rat) < 2 := by decide +kernel
def Dv (z e : Int) : Rat := (z : Rat) * (2 : Rat) ^ e
theorem Dv_unit (z : Int) : Dv z 0 = (z : Rat) := by unfold Dv; rw [Rat.zpow_zero, Rat.mul_one]
theorem Dv_add (y z e : Int) : Dv y e + Dv z e = Dv (y + z) e := by unfold Dv; rw [Rat.intCast_add, Rat.add_mul]
theorem Dv_neg (z e : Int) : Dv (-z) e = -Dv z e := by unfold Dv; rw [Rat.intCast_neg, Rat.neg_mul]
theorem Dv_mul (y z e f : Int) : Dv y e * Dv z f = Dv (y * z) (e + f) := by
 unfold Dv; rw [Rat.intCast_mul, Rat.zpow_add two_ne]; grind
theorem pow_cast (k : Nat) : (((2 : Int) ^ k : Int) : Rat) = (2 : Rat) ^ (k : Int) := by
 rw [Rat.zpow_natCast, Rat.intCast_pow]; rfl
theorem Dv_shift (z e : Int) (k : Nat) : Dv (z * 2 ^ k) e = Dv z (e + k) := by
 unfold Dv; rw [Rat.intCast_mul, Rat.zpow_add two_ne, pow_cast]; grind
theorem Dv_pow_pos (e : Int) : (0 : Rat) < (2 : Rat) ^ e := Rat.zpow_pos two_pos
theorem Dv_le {y z e : Int} : Dv y e ≤ Dv z e ↔ y ≤ z := by
 unfold Dv
 constructor
 · intro h; exact Rat.intCast_le_intCast.1 (Rat.le_of_mul_le_mul_right h (Dv_pow_pos e))
 · intro h; exact Rat.mul_le_mul_of_nonneg_right (Rat.intCast_le_intCast.2 h) (Rat.le_of_lt (Dv_pow_pos e))
theorem Dv_lt {y z e : Int} : Dv y e < Dv z e ↔ y < z := by
 rw [← Rat.not_le, Dv_le]; omega
theorem Dv_inj {y z e : Int} (h : Dv y e = Dv z e) : y = z := by
 have h1 := Dv_le.1 (by rw [h]; exact Rat.le_refl : Dv y e ≤ Dv z e)
 have h2 := Dv_le.1 (by rw [h]; exact Rat.le_refl : Dv z e ≤ Dv y e)
 omega
theorem Dv_zero (e : Int) : Dv 0 e = 0 := by unfold Dv; rw [Rat.intCast_zero, Rat.zero_mul]
theorem Dv_eq_zero {z e : Int} : Dv z e = 0 ↔ z = 0 := by
 rw [← Dv_zero e]
 exact ⟨Dv_inj, fun h => by rw [h]⟩
theorem Dv_pos {z e : Int} : 0 < Dv z e ↔ 0 < z := by rw [← Dv_zero e]; exact Dv_lt
theorem Dv_nonneg {z e : Int} : 0 ≤ Dv z e ↔ 0 ≤ z := by rw [← Dv_zero e]; exact Dv_le
theorem Dv_lt_zero {z e : Int} : Dv z e < 0 ↔ z < 0 := by rw [← Dv_zero e]; exact Dv_lt
theorem Dv_one (e : Int) : Dv 1 e = (2 : Rat) ^ e := by unfold Dv; rw [Rat.intCast_one, Rat.one_mul]
theorem Dv_down (a : Nat) (w : Nat) : Dv (a : Int) (-(w : Int)) = (a : Rat) * (((2 ^ w : Nat) : Rat))⁻¹ := by
 unfold Dv
 rw [Rat.zpow_neg, Rat.zpow_natCast, Rat.intCast_natCast, Rat.natCast_pow]; rfl
theorem Dv_common (e f : Int) : ∃ (g : Int) (i j : Nat), e = g + i ∧ f = g + j ∧ (i = 0 ∨ j = 0) := by
 by_cases h : e ≤ f
 · exact ⟨e, 0, (f - e).toNat, by omega, by omega, .inl rfl⟩
 · exact ⟨f, (e - f).toNat, 0, by omega, by omega, .inr rfl⟩
def Bd (N : Nat) (z e : Int) : Prop := z.natAbs < 2 ^ N ∧ -(N : Int) ≤ e ∧ e ≤ (N : Int)
theorem Bd.more {N M : Nat} {z e : Int} (h : Bd N z e) (hm : N ≤ M) : Bd M z e := by
 obtain ⟨h1, h2, h3⟩ := h
 exact ⟨Nat.lt_of_lt_of_le h1 (Nat.pow_le_pow_right (by decide) hm), by omega, by omega⟩
theorem Bd.mul {N M : Nat} {y z e f : Int} (h : Bd N y e) (h' : Bd M z f) : Bd (N + M) (y * z) (e + f) := by
 obtain ⟨h1, h2, h3⟩ := h
 obtain ⟨k1, k2, k3⟩ := h'
 refine ⟨?_, by omega, by omega⟩
 rw [Int.natAbs_mul, Nat.pow_add]
 exact Nat.mul_lt_mul'' h1 k1
theorem Bd.shift {N : Nat} {z e g : Int} {i : Nat} (h : Bd N z e) (he : e = g + i) {M : Nat} (hi : i ≤ M) (hg : -((N + M : Nat) : Int) ≤ g) : Bd (N + M) (z * 2 ^ i) g := by
 obtain ⟨h1, h2, h3⟩ := h
 refine ⟨?_, by omega, by omega⟩
 rw [Int.natAbs_mul, Int.natAbs_pow, Nat.pow_add]
 exact Nat.mul_lt_mul_of_lt_of_le h1 (Nat.pow_le_pow_right (by decide) hi) (Nat.two_pow_pos _)
theorem Bd.add {N : Nat} {y z e : Int} (h : Bd N y e) (h' : Bd N z e) : Bd (N + 1) (y + z) e := by
 obtain ⟨h1, h2, h3⟩ := h
 obtain ⟨k1, k2, k3⟩ := h'
 refine ⟨?_, by omega, by omega⟩
 rw [Nat.pow_succ]; omega
theorem Bd.neg {N : Nat} {z e : Int} (h : Bd N z e) : Bd N (-z) e := by
 obtain ⟨h1, h2, h3⟩ := h
 exact ⟨by rw [Int.natAbs_neg]; exact h1, h2, h3⟩
end Exq

namespace Exq
set_option linter.unusedVariables false
theorem e_big : ∀ n : Nat, ((11 : Rat) / 4) ^ (2 * n) ≤ ((2 ^ (3 * n) : Nat) : Rat)
 | 0 => by
   show ((11 : Rat) / 4) ^ 0 ≤ ((2 ^ 0 : Nat) : Rat)
   rw [Rat.pow_zero]; exact Rat.le_refl
 | n + 1 => by
   have h := e_big n
   have e : ((2 ^ (3 * (n + 1)) : Nat) : Rat) = ((2 ^ (3 * n) : Nat) : Rat) * 8 := by
    rw [show 3 * (n + 1) = 3 * n + 3 by omega, Nat.pow_add, Rat.natCast_mul]; rfl
   rw [e, show 2 * (n + 1) = 2 * n + 1 + 1 by omega, Rat.pow_succ, Rat.pow_succ]
   have p := upos (Nat.two_pow_pos (3 * n))
   generalize ((2 ^ (3 * n) : Nat) : Rat) = P at *
   generalize ((11 : Rat) / 4) ^ (2 * n) = q at *
   have c : ((11 : Rat) / 4) * (11 / 4) ≤ 8 := by decide +kernel
   have h1 := Rat.mul_le_mul_of_nonneg_right h (show (0 : Rat) ≤ (11 / 4) * (11 / 4) by decide +kernel)
   have h2 := Rat.mul_le_mul_of_nonneg_left c (Rat.le_of_lt p)
   rw [Rat.mul_assoc]
   exact Rat.le_trans h1 h2
theorem Ex.le_big {a b x : Rat} {n : Nat} (h0 : 0 ≤ x) (h1 : x ≤ ((2 * n : Nat) : Rat)) (h : Ex a b x) : a ≤ ((2 ^ (3 * n) : Nat) : Rat) :=
 Rat.le_trans (Ex.le_pow (n := 2 * n) h0 h1 h) (e_big n)
theorem Exs.sizes {a b x : Rat} {n : Nat} (h : Exs a b x) (h1 : -((2 * n : Nat) : Rat) ≤ x) (h2 : x ≤ ((2 * n : Nat) : Rat)) (hn : b ≤ a * 2) : (((2 ^ (3 * n + 1) : Nat) : Rat))⁻¹ ≤ a ∧ b ≤ ((2 ^ (3 * n + 1) : Nat) : Rat) := by
 have p1 := h.1
 have p2 := h.2.1
 have e : ((2 ^ (3 * n + 1) : Nat) : Rat) = ((2 ^ (3 * n) : Nat) : Rat) * 2 := by rw [Nat.pow_succ, Rat.natCast_mul]; rfl
 have pp := upos (Nat.two_pow_pos (3 * n))
 have pq := upos (Nat.two_pow_pos (3 * n + 1))
 have one : (1 : Rat) ≤ ((2 ^ (3 * n) : Nat) : Rat) := Rat.natCast_le_natCast.2 (show 1 ≤ 2 ^ (3 * n) from Nat.two_pow_pos _)
 have big : ∀ {a b x : Rat}, 0 ≤ x → x ≤ ((2 * n : Nat) : Rat) → Ex a b x → a ≤ ((2 ^ (3 * n) : Nat) : Rat) := fun h0 h1 h => Ex.le_big h0 h1 h
 generalize ((2 ^ (3 * n) : Nat) : Rat) = P at *
 generalize ((2 ^ (3 * n + 1) : Nat) : Rat) = Q at *
 generalize ((2 * n : Nat) : Rat) = X at *
 have iq := Rat.mul_inv_cancel Q (by grind)
 have ip := Rat.inv_pos.2 pq
 by_cases hx : 0 ≤ x
 · have k := h.pos hx
   have q1 := big hx h2 k
   have q2 := Ex.ge_one hx k
   refine ⟨?_, by grind⟩
   have q3 := Rat.mul_le_mul_of_nonneg_right (show 2 ≤ Q by grind) (Rat.le_of_lt ip)
   grind
 · have k := h.neg.pos (show 0 ≤ -x by grind)
   have q1 := big (show 0 ≤ -x by grind) (show -x ≤ X by grind) k
   have q2 := Ex.ge_one (show 0 ≤ -x by grind) k
   have pb : 0 < b := by grind
   have ib := Rat.mul_inv_cancel b (by grind)
   have ia := Rat.mul_inv_cancel a (by grind)
   have s1 := Rat.mul_le_mul_of_nonneg_right q1 (Rat.le_of_lt pb)
   have s2 := Rat.mul_le_mul_of_nonneg_right q2 (Rat.le_of_lt p1)
   have s0 : b⁻¹ * b = 1 := by grind
   have s00 : a⁻¹ * a = 1 := by grind
   rw [s0] at s1
   rw [s00, Rat.one_mul] at s2
   constructor
   · have s4 := Rat.mul_le_mul_of_nonneg_left hn (Rat.le_of_lt pp)
     have s3 : 1 ≤ Q * a := by rw [e]; grind
     have := Rat.mul_le_mul_of_nonneg_right s3 (Rat.le_of_lt ip)
     have e2 : Q * a * Q⁻¹ = a := by grind
     rw [e2, Rat.one_mul] at this; exact this
   · grind
theorem Nar.narrow {lo hi d : Rat} {p : Nat} (h : Nar lo hi d) (hd : d ≤ ep (p + 1)) : (hi - lo) * ((2 ^ p : Nat) : Rat) ≤ lo := by
 obtain ⟨h1, h2⟩ := h
 have P := upos (Nat.two_pow_pos p)
 have e : ep (p + 1) * ((2 ^ p : Nat) : Rat) = 1 := by
  have := ep_add 1 p
  rw [Nat.add_comm 1 p] at this
  rw [Rat.mul_comm, this]; unfold ep; decide +kernel
 have s1 := Rat.mul_le_mul_of_nonneg_left hd (Rat.le_of_lt h1)
 have s2 : hi - lo ≤ lo * ep (p + 1) := by grind
 have s3 := Rat.mul_le_mul_of_nonneg_right s2 (Rat.le_of_lt P)
 rw [Rat.mul_assoc, e, Rat.mul_one] at s3
 exact s3
theorem sq_step {lo hi d l h e x : Rat} (n : Nar lo hi d) (hlh : lo ≤ hi) (hx : 0 ≤ x) (he : Ex lo hi x) (hl : Dn (lo * lo) l e) (hh : Up (hi * hi) h e) (h1 : 8 * d ≤ 1) (e0 : 0 ≤ e) (e1 : 8 * e ≤ d) : Nar l h (4 * d) ∧ l ≤ h ∧ Ex l h (2 * x) := by
 have h0 : 0 ≤ lo := Rat.le_of_lt n.1
 have m := mul_le hlh hlh h0 (Rat.le_trans h0 hlh)
 refine ⟨Nar.sq n hlh hl hh h1 e0 e1, Rat.le_trans hl.1 (Rat.le_trans m hh.1), (he.sq hx h0).wider hl.1 hh.1⟩
theorem four_ep (p : Nat) : 4 * ep (p + 2) = ep p := by
 have h1 := ep_succ p
 have h2 := ep_succ (p + 1)
 grind
theorem eight_ep (p : Nat) : 8 * ep (p + 3) = ep p := by
 have h1 := ep_succ p
 have h2 := four_ep (p + 1)
 grind
theorem ep_small {p : Nat} (hp : 1 ≤ p) : ep p ≤ 1 := by
 have := ep_le hp
 have e : ep 1 = 1 := by unfold ep; decide +kernel
 rw [e] at this; exact this
end Exq

namespace Go.Proofs.YtkdicconchobfaaGreatDoor
open Go
section
variable {P : Program} {ops : Array Oper} {Q : Exit → Act → World → Prop}
theorem count_set {l : List Bool} {i : Nat} (h : l[i]? = some false) : (l.set i true).count false + 1 = l.count false := by
 induction l generalizing i with
 | nil => simp at h
 | cons x l ih =>
   cases i with
   | zero => simp at h; subst h; simp
   | succ i =>
     simp at h
     have := ih h
     simp only [List.set_cons_succ, List.count_cons]
     omega
theorem count_zero {l : List Bool} (h : l.count false = 0) {i : Nat} (hi : i < l.length) : l[i]? = some true := by
 have := List.count_eq_zero.1 h
 rw [List.getElem?_eq_getElem hi]
 cases hx : l[i] with
 | true => rfl
 | false => exact absurd (hx ▸ List.getElem_mem hi) this
def Acyclic (ops : Array Oper) : Bool := (List.range ops.size).all fun i => ((ops[i]?).map (·.after.all fun e => !Region.binds .any e || decide (e.on < i))).getD true
theorem ready_all (hac : Acyclic ops = true) {listed : Array Bool} (hs : listed.size = ops.size) (hr : Region.ready .any ops listed = []) : ∀ i, i < ops.size → listed.getD i false = true := by
 intro i
 induction i using Nat.strongRecOn with
 | _ i ih =>
   intro hi
   refine Classical.byContradiction fun hf => ?_
   have hf' : listed.getD i true = false := by
    have h1 : listed.getD i false = listed.getD i true := by simp [Array.getD, hs, hi]
    rw [← h1]; simpa using hf
   have : i ∈ Region.ready .any ops listed := by
    unfold Region.ready
    rw [List.mem_filter]
    refine ⟨List.mem_range.2 hi, ?_⟩
    rw [hf']
    have ho : ops[i]? = some ops[i] := Array.getElem?_eq_getElem hi
    have ha := List.all_eq_true.1 hac i (List.mem_range.2 hi)
    rw [ho] at ha ⊢
    simp only [Option.map_some, Option.getD_some, Bool.not_false, Bool.true_and] at ha ⊢
    rw [Array.all_eq_true'] at ha ⊢
    intro e he
    have h2 := ha e he
    cases hb : Region.binds .any e
    · simp
    · have h3 : e.on < i := by simpa [hb] using h2
      rw [ih e.on h3 (by omega)]
      simp
   rw [hr] at this
   cases this
theorem wpAny_inv (hac : Acyclic ops = true) (I : Array Bool → Act → World → Prop)
 (hstep : ∀ i o, ops[i]? = some o → ∀ (listed : Array Bool) a w, listed.size = ops.size → listed.getD i true = false → (o.after.all fun e => !Region.binds .any e || listed.getD e.on false) = true → I listed a w → ∀ K : Act → World → Prop, Shut (∀ a' w', I (listed.setIfInBounds i true) a' w' → K a' w') → if Region.wanted o (yielded ops a.tmps) = true then Oper.wp P o a w K Q else K (a.put o.dst undef) w)
 (hend : ∀ listed a w, (∀ i, i < ops.size → listed.getD i false = true) → I listed a w → Q .normal a w) :
 ∀ (fuel : Nat) (listed : Array Bool) a w, listed.size = ops.size → listed.toList.count false ≤ fuel → I listed a w → wpAny P .any ops Q fuel listed a w
 | 0, listed, a, w, hs, hc, hI => by
   have hall : ∀ i, i < ops.size → listed.getD i false = true := by
    intro i hi
    have := count_zero (l := listed.toList) (by omega) (i := i) (by simp [hs, hi])
    simp only [Array.getElem?_toList] at this
    simp [this]
   refine ⟨?_, hend _ _ _ hall hI⟩
   unfold Region.ready
   rw [List.filter_eq_nil_iff]
   intro i hi
   have := hall i (List.mem_range.1 hi)
   have h1 : listed.getD i true = true := by
    have h2 : listed.getD i true = listed.getD i false := by simp [Array.getD, hs, List.mem_range.1 hi]
    rw [h2]; exact this
   rw [h1]; simp
 | fuel + 1, listed, a, w, hs, hc, hI => by
   refine ⟨fun hr => hend _ _ _ (ready_all hac hs hr) hI, fun i hi => ?_⟩
   unfold Region.ready at hi
   obtain ⟨hi1, hi2⟩ := List.mem_filter.1 hi
   have hil := List.mem_range.1 hi1
   rw [Bool.and_eq_true] at hi2
   have ho : ops[i]? = some ops[i] := Array.getElem?_eq_getElem hil
   rw [ho] at hi2
   simp only [Option.map_some, Option.getD_some, Bool.not_eq_true'] at hi2
   refine wpOp_step ho fun K' hK => ?_
   refine hstep i _ ho listed a w hs hi2.1 hi2.2 hI K' (fun a' w' hI' => hK a' w' ?_)
   refine wpAny_inv hac I hstep hend fuel _ a' w' (by simp [hs]) ?_ hI'
   have h1 : listed.toList[i]? = some false := by
    have h2 := hi2.1
    rw [Array.getElem?_toList]
    have h3 : i < listed.size := by omega
    rw [Array.getElem?_eq_getElem h3]
    simp [Array.getD, h3] at h2
    rw [h2]
   have h2 := count_set h1
   rw [Array.toList_setIfInBounds]
   omega
theorem wp_region_inv {id : Nat} {a : Act} {w : World} (hm : P.follows .mixedOrders = true) (hac : Acyclic ops = true) (I : Array Bool → Act → World → Prop) (h0 : I (Array.replicate ops.size false) a w.drew)
 (hstep : ∀ i o, ops[i]? = some o → ∀ (listed : Array Bool) a w, listed.size = ops.size → listed.getD i true = false → (o.after.all fun e => !Region.binds .any e || listed.getD e.on false) = true → I listed a w → ∀ K : Act → World → Prop, Shut (∀ a' w', I (listed.setIfInBounds i true) a' w' → K a' w') → if Region.wanted o (yielded ops a.tmps) = true then Oper.wp P o a w K Q else K (a.put o.dst undef) w)
 (hend : ∀ listed a w, (∀ i, i < ops.size → listed.getD i false = true) → I listed a w → Q .normal a w) : (Code.region id ops true).wp P Q a w :=
 wp_region_any hm (wpAny_inv hac I hstep hend ops.size _ a _ (by simp) (by
  refine Nat.le_trans List.count_le_length ?_
  simp) h0)
end
end Go.Proofs.YtkdicconchobfaaGreatDoor

-- PRINTED BY print.sh 35421559b90ae4d0a3588c463048766b98c2df88dd9212a6774a882060cdf62d: not written by this session
-- PRINTED WORDS (module Derived/Print/Words.lean): go-wishes' parts 1 to 38 and go-gate-2's additions: AI agents of Go's test side, Mon Nov 16 2026; no person has read them. Plain theorems and definitions: no macro, no elab, no axiom.
set_option linter.unusedVariables false
set_option linter.unusedSimpArgs false
namespace Go.Proofs.YtkdicconchobfaaGreatDoorW.PrintWords
open Go.RowKit
structure Aside0 (p : Prop) : Prop where mk :: (out : p)
structure Drawn0 (w w' : World) : Prop where mk :: (out : ∃ n, w' = w.drewN n)
def rd (xs : List Int) (i : Int) : Int := xs.getD i.toNat 0
def bt (s : ByteArray) (i : Int) : Int := if h : i.toNat < s.size then ((s[i.toNat]'h).toNat : Int) else 0
def nums (k : IntKind) (xs : List Int) : List Value := xs.map fun x => .int k x
def bools (xs : List Bool) : List Value := xs.map fun x => .bool x
def pw_strs (xs : List ByteArray) : List Value := xs.map fun x => .string x
theorem below_alloc {w W : World} (h : Below w.heap.size w W) (o : Obj) : Below w.heap.size w (W.alloc o) := h.alloc h.size o
theorem below_drew {B : Nat} {w W : World} (h : Below B w W) : Below B w W.drew := ⟨h.os, h.tape, h.output, h.size, h.block⟩
theorem pw_below_drewN {B : Nat} {w W : World} (h : Below B w W) (n : Nat) : Below B w (W.drewN n) := ⟨h.os, h.tape, h.output, h.size, h.block⟩
theorem below_then {B : Nat} {w w1 w2 : World} (h : Below B w w1) (hB : B ≤ w1.heap.size) (k : Below w1.heap.size w1 w2) : Below B w w2 :=
 h.trans ⟨k.os, k.tape, k.output, k.size, fun i hi => k.block i (Nat.lt_of_lt_of_le hi hB)⟩
theorem pw_cell_below {w w1 : World} (h : Below w.heap.size w w1) {a : Addr} {v : Value} (hc : w.cell? a = some v) : w1.cell? a = some v := (h.cell (World.block_lt_of_cell? w a hc)).trans hc
theorem add_plain (g j : Nat) : (⟨g, 0, none⟩ : Addr).add j = ⟨g, j, none⟩ := by unfold Addr.add; split <;> simp_all
def ReadsInt (w : World) (k : IntKind) (A : Option Addr) (n : Nat) (xs : List Int) : Prop :=
 xs.length = n ∧ n ≤ 9223372036854775807 ∧ (0 < n → ∃ ad, A = some ad ∧ ∀ j, j < n → w.cell? (ad.add j) = some (.int k (xs.getD j 0)))
theorem own_nil (W : World) (base : Nat) (e : TypeId) (size : Nat) : W.ownsRow base e size (.slice none 0 0) 0 [] := ⟨by simp, .inl ⟨rfl, rfl⟩⟩
theorem own_base {w : World} {base : Nat} {e : TypeId} {size n : Nat} {v : Value} {xs : List Value} (h : w.ownsRow base e size v n xs) (k : Nat) (hk : v.ownBlock = some k) : base ≤ k := by
 rcases h.2 with ⟨rfl, _⟩ | ⟨g, cap, cur, rfl, hb, _⟩
 · simp [Value.ownBlock] at hk
 · have : g = k := by simpa [Value.ownBlock] using hk
   omega
theorem own_lt {w : World} {base : Nat} {e : TypeId} {size n : Nat} {v : Value} {xs : List Value} (h : w.ownsRow base e size v n xs) (k : Nat) (hk : v.ownBlock = some k) : k < w.heap.size := by
 rcases h.2 with ⟨rfl, _⟩ | ⟨g, cap, cur, rfl, hb, hh, _⟩
 · simp [Value.ownBlock] at hk
 · have : g = k := by simpa [Value.ownBlock] using hk
   subst this
   exact (Array.getElem?_eq_some_iff.1 hh).1
theorem own_slice {w : World} {base n : Nat} {e : TypeId} {size : Nat} {v : Value} {xs : List Value} (h : w.ownsRow base e size v n xs) : ∃ A c, v = .slice A n c := by
 rcases h.2 with ⟨rfl, rfl⟩ | ⟨g, cap, cur, rfl, _⟩
 · exact ⟨none, 0, rfl⟩
 · exact ⟨_, cap, rfl⟩
section
variable {P : Program} {ops : Array Oper} {rest : List Oper} {o : Oper} {a : Act} {Q : Exit → Act → World → Prop}
end
section
variable {P : Program}
end
section
variable {P : Program} {ops : Array Oper} {rest : List Oper} {o : Oper} {a : Act} {Q : Exit → Act → World → Prop}
end
def bytesOf (s : ByteArray) : List Int := s.data.toList.map fun b => (b.toNat : Int)
def LeO {α : Type} (a b : Option α) : Prop := ∀ r, a = some r → b = some r
def Reps {α : Type} (R : α → List Value → Prop) (size : Nat) (ps : List α) (cs : List Value) : Prop :=
 cs.length = ps.length * size ∧ ∀ j p, ps[j]? = some p → R p ((cs.drop (j * size)).take size)
theorem Reps.none {α : Type} (R : α → List Value → Prop) (size : Nat) : Reps R size [] [] := ⟨by simp, fun j p h => by simp at h⟩
theorem Reps.snoc {α : Type} {R : α → List Value → Prop} {size : Nat} {ps : List α} {cs c : List Value} {p : α} (h : Reps R size ps cs) (hp : R p c) (hc : c.length = size) : Reps R size (ps ++ [p]) (cs ++ c) := by
 refine ⟨by rw [List.length_append, h.1, hc, List.length_append, List.length_singleton, Nat.add_mul, Nat.one_mul], fun j q hq => ?_⟩
 rcases Nat.lt_or_ge j ps.length with hj | hj
 · rw [List.getElem?_append_left hj] at hq
   have h1 : j * size + size ≤ cs.length := by rw [h.1, ← Nat.succ_mul]; exact Nat.mul_le_mul_right _ hj
   have h2 := h.2 j q hq
   rw [List.drop_append_of_le_length (by omega), List.take_append_of_le_length (by rw [List.length_drop]; omega)]
   exact h2
 · have hj' : j = ps.length := by
    have := (List.getElem?_eq_some_iff.1 hq).1
    rw [List.length_append, List.length_singleton] at this
    omega
   subst hj'
   have hq' : p = q := by simpa using hq
   subst hq'
   rw [← h.1, List.drop_left, ← hc, List.take_length]
   exact hp
theorem Reps.imp_ {α : Type} {R R' : α → List Value → Prop} {size : Nat} {ps : List α} {cs : List Value} (h : Reps R size ps cs) (hR : ∀ p c, R p c → R' p c) : Reps R' size ps cs := ⟨h.1, fun j p hj => hR _ _ (h.2 j p hj)⟩
def ReadsRow {α : Type} (R : α → List Value → Prop) (size : Nat) (w : World) (A : Option Addr) (n : Nat) (ps : List α) : Prop :=
 ps.length = n ∧ n ≤ 9223372036854775807 ∧ (0 < n → ∃ ad, A = some ad ∧ ∀ j p, ps[j]? = some p → ∃ c, c.length = size ∧ R p c ∧ ∀ i u, c[i]? = some u → w.cell? (ad.add (j * size + i)) = some u)
theorem ReadsRow.get_ {α : Type} {R : α → List Value → Prop} {size : Nat} {w : World} {A : Option Addr} {n : Nat} {ps : List α} (h : ReadsRow R size w A n ps) (d : α) (i : Int) (h0 : 0 ≤ i) (h1 : i < n) :
 ∃ ad c, A = some ad ∧ c.length = size ∧ R (ps.getD i.toNat d) c ∧ ∀ j u, c[j]? = some u → w.cell? (ad.add (i.toNat * size + j)) = some u := by
 obtain ⟨ad, e, hc⟩ := h.2.2 (by omega)
 have hl : i.toNat < ps.length := by have := h.1; omega
 obtain ⟨c, hs, hr, hcell⟩ := hc i.toNat _ (List.getElem?_eq_getElem hl)
 refine ⟨ad, c, e, hs, ?_, hcell⟩
 rw [List.getD_eq_getElem?_getD, List.getElem?_eq_getElem hl]
 exact hr
theorem ReadsRow.imp_ {α : Type} {R R' : α → List Value → Prop} {size : Nat} {w w1 : World} {A : Option Addr} {n : Nat} {ps : List α} (h : ReadsRow R size w A n ps) (hb : Below w.heap.size w w1) (hR : ∀ p c, R p c → R' p c) : ReadsRow R' size w1 A n ps :=
 ⟨h.1, h.2.1, fun hn => by
  obtain ⟨ad, e, hc⟩ := h.2.2 hn
  refine ⟨ad, e, fun j p hj => ?_⟩
  obtain ⟨c, hs, hr, hcell⟩ := hc j p hj
  exact ⟨c, hs, hR _ _ hr, fun i u hu => pw_cell_below hb (hcell i u hu)⟩⟩
theorem own_reads_row {α : Type} {R : α → List Value → Prop} {w : World} {base n size : Nat} {e : TypeId} {v : Value} {ps : List α} {cs : List Value} (h : w.ownsRow base e size v n cs) (hR : Reps R size ps cs) (hn : ps.length = n) :
 ∃ A c, v = .slice A n c ∧ ReadsRow R size w A n ps := by
 rcases Nat.eq_zero_or_pos n with h0 | h0
 · rcases h.2 with ⟨rfl, rfl⟩ | ⟨g, cap, cur, rfl, _⟩
   · exact ⟨none, 0, rfl, hn, by omega, fun hp => absurd hp (by omega)⟩
   · exact ⟨_, cap, rfl, hn, by omega, fun hp => absurd hp (by omega)⟩
 · obtain ⟨g, cap, rfl, _, _⟩ := h.form h0
   have hm : n ≤ 9223372036854775807 := by
    rcases h.2 with ⟨_, h1⟩ | ⟨g', cap', cur, he, _, _, h1, h2, _⟩
    · omega
    · simp only [maxLen] at h2
      omega
   refine ⟨_, cap, rfl, hn, hm, fun _ => ⟨_, rfl, fun j p hj => ⟨(cs.drop (j * size)).take size, ?_, hR.2 j p hj, fun i u hu => ?_⟩⟩⟩
   · have hjl := (List.getElem?_eq_some_iff.1 hj).1
     have h1 : j * size + size ≤ cs.length := by rw [hR.1, ← Nat.succ_mul]; exact Nat.mul_le_mul_right _ hjl
     rw [List.length_take, List.length_drop]
     omega
   · refine h.cells (g := g) rfl _ u ?_
     rw [List.getElem?_take] at hu
     split at hu
     · rw [List.getElem?_drop] at hu
       exact hu
     · cases hu
section
variable {P : Program} {ops : Array Oper} {rest : List Oper} {o : Oper} {a : Act} {Q : Exit → Act → World → Prop}
theorem print_append_cells {w0 W : World} (base : Nat) (hgd : o.guard = none) (s x : Operand) (t e : TypeId) (z : Value) (size bytes : Nat)
 (ho : o.op = .call { callee := .builtin .append, args := #[s, x], argTypes := #[t, t] })
 (ht : P.underlying t = some (.slice e)) (hinfo : (P.info? e).map (fun i => (i.zero, i.size, i.bytes)) = some (some z, size, bytes)) (hz : z.cells.size = size) (hs0 : 0 < size) (hb0 : 0 < bytes)
 (v : Value) (n : Nat) (xs ys : List Value) (hs : a.eval s = v) (hx : a.eval x = .slice (some ⟨W.heap.size, 0, none⟩) 1 1) (hys : ys.length = size) (h1 : ∀ u ∈ ys, u.oneCell' = true)
 (HO : W.ownsRow base e size v n xs) (HB : Below base w0 W) (hbase : base ≤ W.heap.size) (hl : (n + 1) * bytes ≤ 140737488355328)
 (h : ∀ v1 w1, w1.ownsRow base e size v1 (n + 1) (xs ++ ys) → Below base w0 w1 → W.grownBy w1 v.ownBlock → (v1.ownBlock = v.ownBlock ∨ ∃ b, v1.ownBlock = some b ∧ W.heap.size ≤ b) → wpList P ops Q rest (a.put o.dst v1) w1) :
 wpList P ops Q (o :: rest) a (W.alloc (.cells ys.toArray e)) := by
 obtain ⟨i0, hi, hzz⟩ := Option.map_eq_some_iff.1 hinfo
 simp only [Prod.mk.injEq] at hzz
 obtain ⟨hz0, hz1, hz2⟩ := hzz
 have hlen : n + 1 ≤ 140737488355328 := Nat.le_trans (Nat.le_mul_of_pos_right _ hb0) hl
 refine wpList_append_own_at (W.alloc (.cells ys.toArray e)) hgd s x t ho base e i0 z size bytes ht hi hz0 hz1 hz2 hz hs0 v n xs hs (HO.alloc _) ⟨W.heap.size, 0, none⟩ 1 1 ys hx (by rw [hys]; simp)
  (by simpa using World.news_of_block (cs := ys.toArray) (t := e) (fr := (0, 0)) (heap_alloc_new W (.cells ys.toArray e))) h1 (by simp only [maxLen]; omega) hl (by simp; omega) ?_
 intro v1 w1 hown hg _ hat
 refine h v1 w1 hown ((HB.alloc hbase _).grown hg (by simp; omega) (own_base HO)) (World.grownBy.trans (World.grownBy_alloc W _ _) hg) ?_
 rcases hat with hat | hat
 · exact .inl hat
 · exact .inr ⟨_, hat, by simp⟩
end
theorem blk_set {w : World} {g : Nat} {t : TypeId} {cs : Array Value} (h : w.heap[g]? = some (.cells cs t (0, 0))) (i : Nat) (u : Value) : (w.setCell ⟨g, i, none⟩ u).heap[g]? = some (.cells (cs.setIfInBounds i u) t (0, 0)) := by
 simp [World.setCell, Array.getElem?_modify, h]
theorem blk_lt {w : World} {g : Nat} {o : Obj} (h : w.heap[g]? = some o) : g < w.heap.size := (Array.getElem?_eq_some_iff.1 h).1
theorem blk_frozen {w : World} {g : Nat} {t : TypeId} {cs : Array Value} (h : w.heap[g]? = some (.cells cs t (0, 0))) (i : Nat) : w.frozen? ⟨g, i, none⟩ = false := by simp [World.frozen?, h]
def KeepBut (w w' : World) (g : Nat) (row : Option Nat) : Prop := w.heap.size ≤ w'.heap.size ∧ ∀ i, i < w.heap.size → i ≠ g → some i ≠ row → w'.heap[i]? = w.heap[i]?
def Ev {α : Type} (g : Nat → Option α) (r : α) : Prop := ∃ K, ∀ k, K ≤ k → g k = some r
section
variable {P : Program} {ops : Array Oper} {o : Oper} {a : Act} {Q : Exit → Act → World → Prop} {K : Act → World → Prop}
end
theorem own_weaken {w : World} {base base' : Nat} {e : TypeId} {size n : Nat} {v : Value} {xs : List Value} (h : w.ownsRow base e size v n xs) (hb : base' ≤ base) : w.ownsRow base' e size v n xs := by
 obtain ⟨h1, h2⟩ := h
 refine ⟨h1, ?_⟩
 rcases h2 with h2 | ⟨g, cap, cur, rfl, hg, r⟩
 · exact .inl h2
 · exact .inr ⟨g, cap, cur, rfl, Nat.le_trans hb hg, r⟩
section
variable {α : Type} {enc : α → Value} {d : α}
def encs (enc : α → Value) (xs : List α) : List Value := xs.map enc
def rdOf (d : α) (xs : List α) (i : Int) : α := xs.getD i.toNat d
theorem encs_length (xs : List α) : (encs enc xs).length = xs.length := by simp [encs]
theorem encs_append (xs ys : List α) : encs enc (xs ++ ys) = encs enc xs ++ encs enc ys := by simp [encs]
theorem encs_get (xs : List α) (j : Nat) (h : j < xs.length) : (encs enc xs)[j]? = some (enc (xs.getD j d)) := by
 simp [encs, List.getElem?_eq_getElem h, List.getD_eq_getElem?_getD]
def ReadsOf (enc : α → Value) (d : α) (w : World) (A : Option Addr) (n : Nat) (xs : List α) : Prop :=
 xs.length = n ∧ n ≤ 9223372036854775807 ∧ (0 < n → ∃ ad, A = some ad ∧ ∀ j, j < n → w.cell? (ad.add j) = some (enc (xs.getD j d)))
theorem ReadsOf.take_ {w : World} {A : Option Addr} {n : Nat} {xs : List α} (h : ReadsOf enc d w A n xs) (i : Nat) (hi : i ≤ n) : ReadsOf enc d w A i (xs.take i) := by
 refine ⟨by rw [List.length_take, h.1]; omega, by have := h.2.1; omega, fun hp => ?_⟩
 obtain ⟨ad, e, hc⟩ := h.2.2 (by omega)
 refine ⟨ad, e, fun j hj => ?_⟩
 rw [hc j (by omega)]
 simp [List.getD_eq_getElem?_getD, hj]
theorem own_lit_of (W : World) (base : Nat) (e : TypeId) (xs : List α) (hb : base ≤ W.heap.size) (hm : xs.length ≤ 9223372036854775807) :
 (W.alloc (.cells (encs enc xs).toArray e)).ownsRow base e 1 (.slice (some ⟨W.heap.size, 0, none⟩) xs.length xs.length) xs.length (encs enc xs) := by
 have h := World.ownsRow_lit (base := base) (e := e) (size := 1) W (encs enc xs).toArray xs.length hb (by simpa [maxLen] using hm) (by simp [encs])
 simpa using h
theorem own_at_of {W : World} {base g n cap : Nat} {e : TypeId} {xs : List α} (h : W.ownsRow base e 1 (.slice (some ⟨g, 0, none⟩) n cap) n (encs enc xs)) (i : Int) (h0 : 0 ≤ i) (h1 : i < n) :
 W.cell? ⟨g, i.toNat, none⟩ = some (enc (rdOf d xs i)) ∧ W.frozen? ⟨g, i.toNat, none⟩ = false := by
 have hl : xs.length = n := by have := h.1; simp [encs] at this; exact this
 constructor
 · have hc := h.cells (g := g) rfl i.toNat _ (encs_get (d := d) xs i.toNat (by omega))
   rwa [add_plain] at hc
 · rcases h.2 with ⟨h', _⟩ | ⟨g', cap', cur, h', _, hh, _⟩
   · cases h'
   · have : g = g' := by injection h' with h'; injection h' with h'; injection h' with h'
     subst this
     simp [World.frozen?, hh]
theorem own_store_of {W : World} {base g n cap : Nat} {e : TypeId} {xs : List α} (h : W.ownsRow base e 1 (.slice (some ⟨g, 0, none⟩) n cap) n (encs enc xs)) (i : Int) (x : α) :
 (W.setCell ⟨g, i.toNat, none⟩ (enc x)).ownsRow base e 1 (.slice (some ⟨g, 0, none⟩) n cap) n (encs enc (xs.set i.toNat x)) ∧ W.grownBy (W.setCell ⟨g, i.toNat, none⟩ (enc x)) (some g) := by
 have hs := h.stored i.toNat (enc x)
 have he : (encs enc xs).set i.toNat (enc x) = encs enc (xs.set i.toNat x) := by simp [encs, List.map_set]
 rwa [he] at hs
end
section
variable {α : Type} {P : Program} {ops : Array Oper} {rest : List Oper} {o : Oper} {a : Act} {Q : Exit → Act → World → Prop}
theorem print_append_row_of {w0 W : World} (enc : α → Value) (d : α) (base : Nat) (hgd : o.guard = none) (s x : Operand) (t e : TypeId) (z : Value) (bytes : Nat)
 (ho : o.op = .call { callee := .builtin .append, args := #[s, x], argTypes := #[t, t] })
 (ht : P.underlying t = some (.slice e)) (hinfo : (P.info? e).map (fun i => (i.zero, i.size, i.bytes)) = some (some z, 1, bytes)) (hz : z.cells.size = 1) (hb0 : 0 < bytes) (h1 : ∀ x : α, (enc x).oneCell' = true)
 (v : Value) (xs ys : List α) (A : Option Addr) (m c : Nat) (hs : a.eval s = v) (hx : a.eval x = .slice A m c)
 (HO : W.ownsRow base e 1 v xs.length (encs enc xs)) (HR : ReadsOf enc d W A m ys) (HB : Below base w0 W) (hbase : base ≤ W.heap.size) (hl : (xs.length + m) * bytes ≤ 140737488355328)
 (h : ∀ v1 w1, w1.ownsRow base e 1 v1 (xs ++ ys).length (encs enc (xs ++ ys)) → Below base w0 w1 → W.grownBy w1 v.ownBlock → (v1.ownBlock = v.ownBlock ∨ ∃ b, v1.ownBlock = some b ∧ W.heap.size ≤ b) → wpList P ops Q rest (a.put o.dst v1) w1) :
 wpList P ops Q (o :: rest) a W := by
 obtain ⟨i0, hi, hzz⟩ := Option.map_eq_some_iff.1 hinfo
 simp only [Prod.mk.injEq] at hzz
 obtain ⟨hz0, hz1, hz2⟩ := hzz
 have hm : ys.length = m := HR.1
 have hlen : xs.length + m ≤ 140737488355328 := Nat.le_trans (Nat.le_mul_of_pos_right _ hb0) hl
 have hrun : ∃ v1 w1, (Builtin.append_ #[t, t] o.type #[v, .slice A m c]).run P W = .ok v1 w1 ∧ w1.ownsRow base e 1 v1 (xs ++ ys).length (encs enc (xs ++ ys)) ∧ W.grownBy w1 v.ownBlock ∧ (v1.ownBlock = v.ownBlock ∨ v1.ownBlock = some W.heap.size) := by
  rcases A with _ | ad
  · have h0 : m = 0 := by
     rcases Nat.eq_zero_or_pos m with h0 | h0
     · exact h0
     · obtain ⟨ad, h, _⟩ := HR.2.2 h0
       cases h
    subst h0
    obtain rfl : ys = [] := List.eq_nil_of_length_eq_zero hm
    refine ⟨v, W, ?_, by simpa using HO, World.grownBy.refl W _, .inl rfl⟩
    rcases HO.2 with ⟨rfl, hn⟩ | ⟨g, cap, cur, rfl, _, _, hnc, _⟩
    · simp [Builtin.append_, run_underlying ht, sizeOf, typeInfo, hi, Builtin.lenOf, Builtin.firstCells]
    · simp [Builtin.append_, run_underlying ht, sizeOf, typeInfo, hi, Builtin.lenOf, Builtin.firstCells, hnc, storeCells]
  · have hcells : ∀ j u, (encs enc ys)[j]? = some u → W.cell? (ad.add j) = some u := by
     intro j u hu
     have hj : j < ys.length := by
      rcases Nat.lt_or_ge j ys.length with h | h
      · exact h
      · simp [encs, List.getElem?_eq_none h] at hu
     obtain ⟨ad', h', hc⟩ := HR.2.2 (by omega)
     injection h' with h'
     subst h'
     rw [encs_get (d := d) ys j hj] at hu
     rw [← hu]
     exact hc j (by omega)
    obtain ⟨v1, w1, hr, h2, h3, _, h5⟩ := run_append_own_at (P := P) W base t o.type e i0 z 1 bytes ht hi hz0 hz1 hz2 hz (by omega) v xs.length (encs enc xs) HO ad m c (encs enc ys) (by simp [encs, hm]) hcells
     (by intro u hu; simp only [encs, List.mem_map] at hu; obtain ⟨q, _, rfl⟩ := hu; exact h1 q) (by simp only [maxLen]; omega) hl hbase
    exact ⟨v1, w1, hr, by simpa [encs, hm] using h2, h3, h5⟩
 obtain ⟨v1, w1, hr, hown, hg, hat⟩ := hrun
 refine wpList_plain hgd fun K hK => ?_
 unfold Oper.wp execOp
 simp only [ho, resolve, invoke, builtin, Sem.run_bind, Sem.run_pure, Result.andThen_ok, List.map_toArray, List.map_cons, List.map_nil, hs, hx, hr]
 refine hK _ _ (h v1 w1 hown (HB.grown hg hbase (own_base HO)) hg ?_)
 rcases hat with hat | hat
 · exact .inl hat
 · exact .inr ⟨_, hat, Nat.le_refl _⟩
end
def NeRow (v v' : Value) : Prop := ∀ k, v.ownBlock = some k → v'.ownBlock ≠ some k
theorem blk_alloc {w : World} {g : Nat} {o : Obj} (h : w.heap[g]? = some o) (o' : Obj) : (w.alloc o').heap[g]? = some o := (Below.heap_alloc w o' g (blk_lt h)).trans h
theorem blk_drew {w : World} {g : Nat} {o : Obj} (h : w.heap[g]? = some o) : w.drew.heap[g]? = some o := h
theorem blk_below {w w1 : World} {g : Nat} {o : Obj} (h : w.heap[g]? = some o) (hb : Below w.heap.size w w1) : w1.heap[g]? = some o := (hb.block g (blk_lt h)).trans h
theorem blk_new (w : World) (o : Obj) : (w.alloc o).heap[w.heap.size]? = some o := heap_alloc_new w o
section
variable {P : Program}
theorem results_ct {fn : Func} {p u : Tmp} {ty : TypeId} (h : fn.results = #[.cell p ty, .tmp u]) (tmps : Array Value) (w : World) (g : Nat) (t : TypeId) (cs : Array Value) (fr : Nat × Nat) (d : TypeDesc)
 (hp : tmps.getD p undef = .pointer (some ⟨g, 0, none⟩)) (hg : w.heap[g]? = some (.cells cs t fr))
 (hu : P.underlying ty = some d) (hd : (match d with | .struct _ | .array _ _ => true | _ => false) = true) (hi : (P.info? ty).map (·.size) = some cs.size) :
 (results fn tmps).run P w = .ok (.tuple #[.agg cs, tmps.getD u undef]) w := by
 have hp' : tmps[p]?.getD undef = .pointer (some ⟨g, 0, none⟩) := by simpa using hp
 simp [results, h, hp', asAddr, run_loadVar_row w g t ty cs fr d hg hu hd hi]
end
theorem own_le {w : World} {base n m c size : Nat} {e : TypeId} {A : Option Addr} {xs : List Value} (h : w.ownsRow base e size (.slice A m c) n xs) : m ≤ c := by
 rcases h.2 with ⟨he, _⟩ | ⟨g, cap, cur, he, _, _, hnc, _⟩
 · injection he with _ h2 h3
   omega
 · injection he with _ h2 h3
   omega
def OwnRow {α : Type} (R : α → List Value → Prop) (e : TypeId) (size : Nat) (w : World) (base : Nat) (v : Value) (ps : List α) : Prop :=
 ∃ inner, w.ownsRow base e size v ps.length inner ∧ Reps R size ps inner
section
variable {α : Type} {R R' : α → List Value → Prop} {e : TypeId} {size : Nat} {w w1 : World} {base : Nat} {v : Value} {ps : List α}
theorem OwnRow.none_ (R : α → List Value → Prop) (e : TypeId) (size : Nat) (w : World) (base : Nat) : OwnRow R e size w base (.slice none 0 0) [] := ⟨[], own_nil _ _ _ _, Reps.none _ _⟩
theorem OwnRow.imp_ (h : OwnRow R e size w base v ps) (hR : ∀ p c, R p c → R' p c) : OwnRow R' e size w base v ps := by
 obtain ⟨inner, ho, hr⟩ := h
 exact ⟨inner, ho, hr.imp_ hR⟩
theorem OwnRow.reads (h : OwnRow R e size w base v ps) : ∃ A c, v = .slice A ps.length c ∧ ps.length ≤ c ∧ ReadsRow R size w A ps.length ps := by
 obtain ⟨inner, ho, hr⟩ := h
 obtain ⟨A, c, rfl, hrow⟩ := own_reads_row ho hr rfl
 exact ⟨A, c, rfl, own_le ho, hrow⟩
end
section
variable {P : Program} {ops : Array Oper} {rest : List Oper} {o : Oper} {a : Act} {Q : Exit → Act → World → Prop} {α : Type} {R : α → List Value → Prop}
end
section
variable {P : Program} {ops : Array Oper} {o : Oper} {a : Act} {Q : Exit → Act → World → Prop} {K : Act → World → Prop} {α : Type} {R : α → List Value → Prop}
end
section
variable {α : Type} {P : Program}
theorem print_take_of (enc : α → Value) (d : α) (t e : TypeId) (kl : IntKind) {i : TypeInfo} (ht : P.underlying t = some (.slice e)) (hi : P.info? e = some i) (hsz : i.size = 1) (A : Option Addr) (c : Nat) (xs : List α) (j : Int) (h0 : 0 ≤ j) (hm : j ≤ xs.length) (hc : xs.length ≤ c) :
 (∀ W : World, (Instr.slice t (.slice A xs.length c) none (some (.int kl j)) none).run P W = .ok (.slice A (xs.take j.toNat).length c) W) ∧
   (∀ w : World, ReadsOf enc d w A xs.length xs → ReadsOf enc d w A (xs.take j.toNat).length (xs.take j.toNat)) ∧ (xs.take j.toNat).length ≤ c := by
 have hl : (xs.take j.toNat).length = j.toNat := by rw [List.length_take]; omega
 refine ⟨fun W => ?_, fun w h => by rw [hl]; exact h.take_ j.toNat (by omega), by rw [hl]; omega⟩
 have hel : P.elem t = e := by simp [Program.elem, ht]
 have hu : P.underlying t = some (.slice (P.elem t)) := by rw [hel]; exact ht
 have ha : (A.map fun x => x.add 0) = A := by cases A <;> simp [Addr.add]
 rw [run_slice_h W t A xs.length c hu kl j h0 (by omega), hel, hl]
 simp [sizeOf, typeInfo, hi, hsz, sliced, Result.andThen, ha]
end
section
variable {P : Program} {ops : Array Oper} {rest : List Oper} {o : Oper} {a : Act} {Q : Exit → Act → World → Prop}
end
structure Kd (α : Type) where
 sz : Nat
 E : List Nat
 K : World → α → List Value → Prop
 M : World → Nat → (Nat → Prop) → α → List Value → Prop
 K_len : ∀ {w x cs}, K w x cs → cs.length = sz
 K_one : ∀ {w x cs}, K w x cs → ∀ u ∈ cs, u.oneCell' = true
 K_below : ∀ {w w1 : World} {x cs}, Below w.heap.size w w1 → K w x cs → K w1 x cs
 K_of_M : ∀ {w base ok x cs}, M w base ok x cs → K w x cs
 M_mono : ∀ {w base ok ok' x cs}, (∀ k, ok k → ok' k) → M w base ok x cs → M w base ok' x cs
 M_bound : ∀ {w : World} {base ok x cs}, M w base ok x cs → M w base (fun k => ok k ∧ base ≤ k ∧ k < w.heap.size ∧ ∃ q, q ∈ E ∧ ∃ cells, w.heap[k]? = some (.cells cells q (0, 0))) x cs
 M_move : ∀ {w w1 : World} {base ok x cs}, (∀ k, ok k → w1.heap[k]? = w.heap[k]?) → M w base ok x cs → M w1 base ok x cs
 M_lower : ∀ {w base base' ok x cs}, base' ≤ base → M w base ok x cs → M w base' ok x cs
theorem own_move {w w1 : World} {base : Nat} {e : TypeId} {size n : Nat} {v : Value} {xs : List Value} (h : w.ownsRow base e size v n xs) (hm : ∀ k, v.ownBlock = some k → w1.heap[k]? = w.heap[k]?) : w1.ownsRow base e size v n xs := by
 obtain ⟨h1, h2⟩ := h
 refine ⟨h1, ?_⟩
 rcases h2 with h2 | ⟨g, cap, cur, rfl, hg, hh, r⟩
 · exact .inl h2
 · exact .inr ⟨g, cap, cur, rfl, hg, (hm g (by simp [Value.ownBlock])).trans hh, r⟩
theorem own_typed {w : World} {base : Nat} {e : TypeId} {size n : Nat} {v : Value} {xs : List Value} (h : w.ownsRow base e size v n xs) (k : Nat) (hk : v.ownBlock = some k) : ∃ cells, w.heap[k]? = some (.cells cells e (0, 0)) := by
 rcases h.2 with ⟨rfl, _⟩ | ⟨g, cap, cur, rfl, hg, hh, r⟩
 · simp [Value.ownBlock] at hk
 · have : g = k := by simpa [Value.ownBlock] using hk
   subst this
   exact ⟨cur, hh⟩
namespace Kd
def C {α : Type} (d : Kd α) (w : World) (A : Option Addr) (n : Nat) (xs : List α) : Prop := ReadsRow (d.K w) d.sz w A n xs
def R {α : Type} (d : Kd α) (e : Nat) (w : World) (base : Nat) (ok : Nat → Prop) (v : Value) (xs : List α) : Prop :=
 (∀ k, v.ownBlock = some k → ok k) ∧ OwnRow (d.M w base (fun k => ok k ∧ some k ≠ v.ownBlock)) e d.sz w base v xs
section
variable {α : Type} {d : Kd α} {e : Nat} {w w1 : World} {base : Nat} {ok ok' : Nat → Prop} {v : Value} {xs : List α}
theorem C_below {A : Option Addr} {n : Nat} (h : d.C w A n xs) (hb : Below w.heap.size w w1) : d.C w1 A n xs := ReadsRow.imp_ h hb (fun _ _ hp => d.K_below hb hp)
theorem R_nil (d : Kd α) (e : Nat) (w : World) (base : Nat) (ok : Nat → Prop) : d.R e w base ok (.slice none 0 0) [] := ⟨fun k hk => by simp [Value.ownBlock] at hk, OwnRow.none_ _ _ _ _ _⟩
theorem R_mono (h : d.R e w base ok v xs) (hok : ∀ k, ok k → ok' k) : d.R e w base ok' v xs := ⟨fun k hk => hok k (h.1 k hk), h.2.imp_ (fun _ _ hp => d.M_mono (fun k hk => ⟨hok k hk.1, hk.2⟩) hp)⟩
theorem R_bound (h : d.R e w base ok v xs) : d.R e w base (fun k => ok k ∧ base ≤ k ∧ k < w.heap.size ∧ ∃ q, q ∈ e :: d.E ∧ ∃ cells, w.heap[k]? = some (.cells cells q (0, 0))) v xs := by
 obtain ⟨h0, inner, ho, hr⟩ := h
 refine ⟨fun k hk => ?_, inner, ho, hr.imp_ (fun _ _ hp => d.M_mono (fun k hk => ?_) (d.M_bound hp))⟩
 · obtain ⟨cells, hc⟩ := own_typed ho k hk
   exact ⟨h0 k hk, own_base ho k hk, own_lt ho k hk, e, List.mem_cons_self, cells, hc⟩
 · obtain ⟨⟨h1, h2⟩, h3, h4, q, hq, hc⟩ := hk
   exact ⟨⟨h1, h3, h4, q, List.mem_cons_of_mem _ hq, hc⟩, h2⟩
theorem R_move (h : d.R e w base ok v xs) (hm : ∀ k, ok k → w1.heap[k]? = w.heap[k]?) : d.R e w1 base ok v xs := by
 obtain ⟨h0, inner, ho, hr⟩ := h
 exact ⟨h0, inner, own_move ho (fun k hk => hm k (h0 k hk)), hr.imp_ (fun _ _ hp => d.M_move (fun k hk => hm k hk.1) hp)⟩
theorem R_lower {base' : Nat} (h : d.R e w base ok v xs) (hb : base' ≤ base) : d.R e w base' ok v xs := by
 obtain ⟨h0, inner, ho, hr⟩ := h
 exact ⟨h0, inner, own_weaken ho hb, hr.imp_ (fun _ _ hp => d.M_lower hb hp)⟩
theorem R_step (h : d.R e w base ok v xs) (hm : ∀ k, ok k → k < w.heap.size → w1.heap[k]? = w.heap[k]?) : d.R e w1 base ok v xs :=
 R_mono (R_move (R_bound h) (fun k hk => hm k hk.1 hk.2.2.1)) (fun _ hk => hk.1)
theorem M_step {x : α} {cs : List Value} (h : d.M w base ok x cs) (hm : ∀ k, ok k → k < w.heap.size → w1.heap[k]? = w.heap[k]?) : d.M w1 base ok x cs :=
 d.M_mono (fun _ hk => hk.1) (d.M_move (fun k hk => hm k hk.1 hk.2.2.1) (d.M_bound h))
theorem R_below (h : d.R e w base ok v xs) (hb : Below w.heap.size w w1) : d.R e w1 base ok v xs := R_step h (fun k _ hk => hb.block k hk)
theorem M_below {x : α} {cs : List Value} (h : d.M w base ok x cs) (hb : Below w.heap.size w w1) : d.M w1 base ok x cs := M_step h (fun k _ hk => hb.block k hk)
theorem R_grown (h : d.R e w base ok v xs) {row : Option Nat} (hg : w.grownBy w1 row) (hok : ∀ k, ok k → some k ≠ row) : d.R e w1 base ok v xs := R_step h (fun k ho hk => hg.block k hk (hok k ho))
theorem R_types (h : d.R e w base ok v xs) {g t : Nat} {cells : Array Value} (hb : w.heap[g]? = some (.cells cells t (0, 0))) (ht : ∀ q, q ∈ e :: d.E → q ≠ t) : d.R e w base (fun k => ok k ∧ k ≠ g) v xs :=
 R_mono (R_bound h) (fun k hk => ⟨hk.1, by
  obtain ⟨_, _, _, q, hq, cells', hc⟩ := hk
  rintro rfl
  rw [hc] at hb
  injection hb with hb
  injection hb with _ hb
  exact ht q hq hb⟩)
theorem R_reads (h : d.R e w base ok v xs) : ∃ A c, v = .slice A xs.length c ∧ xs.length ≤ c ∧ d.C w A xs.length xs := by
 obtain ⟨A, c, he, hl, hr⟩ := OwnRow.reads h.2
 exact ⟨A, c, he, hl, hr.imp_ (Below.refl _ _) (fun _ _ hp => d.K_of_M hp)⟩
theorem R_slice (h : d.R e w base ok v xs) : ∃ A c, v = .slice A xs.length c := by
 obtain ⟨A, c, he, _⟩ := R_reads h
 exact ⟨A, c, he⟩
theorem R_own (h : d.R e w base ok v xs) : ∃ inner, w.ownsRow base e d.sz v xs.length inner := by
 obtain ⟨_, inner, ho, _⟩ := h
 exact ⟨inner, ho⟩
end
def scalar {α : Type} (enc : α → Value) (h1 : ∀ x, (enc x).oneCell' = true) : Kd α where
 sz := 1
 E := []
 K := fun _ x cs => cs = [enc x]
 M := fun _ _ _ x cs => cs = [enc x]
 K_len := fun h => by rw [h]; rfl
 K_one := fun h u hu => by
  rw [h] at hu
  rw [List.mem_singleton.1 hu]
  exact h1 _
 K_below := fun _ h => h
 K_of_M := fun h => h
 M_mono := fun _ h => h
 M_bound := fun h => h
 M_move := fun _ h => h
 M_lower := fun _ h => h
def int (k : IntKind) : Kd Int := scalar (Value.int k) (fun _ => rfl)
def bool : Kd Bool := scalar Value.bool (fun _ => rfl)
def string : Kd ByteArray := scalar Value.string (fun _ => rfl)
def slice {α : Type} (e : Nat) (d : Kd α) : Kd (List α) where
 sz := 1
 E := e :: d.E
 K := fun w xs cs => ∃ A c, cs = [.slice A xs.length c] ∧ xs.length ≤ c ∧ d.C w A xs.length xs
 M := fun w base ok xs cs => ∃ v, cs = [v] ∧ d.R e w base ok v xs
 K_len := by
  rintro w x cs ⟨A, c, rfl, _⟩
  rfl
 K_one := by
  rintro w x cs ⟨A, c, rfl, _⟩ u hu
  rw [List.mem_singleton.1 hu]
  rfl
 K_below := by
  rintro w w1 x cs hb ⟨A, c, rfl, hl, hr⟩
  exact ⟨A, c, rfl, hl, C_below hr hb⟩
 K_of_M := by
  rintro w base ok x cs ⟨v, rfl, h⟩
  obtain ⟨A, c, rfl, hl, hr⟩ := R_reads h
  exact ⟨A, c, rfl, hl, hr⟩
 M_mono := by
  rintro w base ok ok' x cs hok ⟨v, rfl, h⟩
  exact ⟨v, rfl, R_mono h hok⟩
 M_bound := by
  rintro w base ok x cs ⟨v, rfl, h⟩
  exact ⟨v, rfl, R_bound h⟩
 M_move := by
  rintro w w1 base ok x cs hm ⟨v, rfl, h⟩
  exact ⟨v, rfl, R_move h hm⟩
 M_lower := by
  rintro w base base' ok x cs hb ⟨v, rfl, h⟩
  exact ⟨v, rfl, R_lower h hb⟩
def pair {α β : Type} (a : Kd α) (b : Kd β) : Kd (α × β) where
 sz := a.sz + b.sz
 E := a.E ++ b.E
 K := fun w x cs => ∃ c0 c1, cs = c0 ++ c1 ∧ a.K w x.1 c0 ∧ b.K w x.2 c1
 M := fun w base ok x cs => ∃ c0 c1, cs = c0 ++ c1 ∧ a.M w base ok x.1 c0 ∧ b.M w base ok x.2 c1
 K_len := by
  rintro w x cs ⟨c0, c1, rfl, h0, h1⟩
  rw [List.length_append, a.K_len h0, b.K_len h1]
 K_one := by
  rintro w x cs ⟨c0, c1, rfl, h0, h1⟩ u hu
  rcases List.mem_append.1 hu with hu | hu
  · exact a.K_one h0 u hu
  · exact b.K_one h1 u hu
 K_below := by
  rintro w w1 x cs hb ⟨c0, c1, rfl, h0, h1⟩
  exact ⟨c0, c1, rfl, a.K_below hb h0, b.K_below hb h1⟩
 K_of_M := by
  rintro w base ok x cs ⟨c0, c1, rfl, h0, h1⟩
  exact ⟨c0, c1, rfl, a.K_of_M h0, b.K_of_M h1⟩
 M_mono := by
  rintro w base ok ok' x cs hok ⟨c0, c1, rfl, h0, h1⟩
  exact ⟨c0, c1, rfl, a.M_mono hok h0, b.M_mono hok h1⟩
 M_bound := by
  rintro w base ok x cs ⟨c0, c1, rfl, h0, h1⟩
  refine ⟨c0, c1, rfl, a.M_mono ?_ (a.M_bound h0), b.M_mono ?_ (b.M_bound h1)⟩
  · rintro k ⟨h2, h3, h4, q, hq, hc⟩
    exact ⟨h2, h3, h4, q, List.mem_append_left _ hq, hc⟩
  · rintro k ⟨h2, h3, h4, q, hq, hc⟩
    exact ⟨h2, h3, h4, q, List.mem_append_right _ hq, hc⟩
 M_move := by
  rintro w w1 base ok x cs hm ⟨c0, c1, rfl, h0, h1⟩
  exact ⟨c0, c1, rfl, a.M_move hm h0, b.M_move hm h1⟩
 M_lower := by
  rintro w base base' ok x cs hb ⟨c0, c1, rfl, h0, h1⟩
  exact ⟨c0, c1, rfl, a.M_lower hb h0, b.M_lower hb h1⟩
def iso {α β : Type} (d : Kd α) (f : β → α) : Kd β where
 sz := d.sz
 E := d.E
 K := fun w x cs => d.K w (f x) cs
 M := fun w base ok x cs => d.M w base ok (f x) cs
 K_len := d.K_len
 K_one := d.K_one
 K_below := d.K_below
 K_of_M := d.K_of_M
 M_mono := d.M_mono
 M_bound := d.M_bound
 M_move := d.M_move
 M_lower := d.M_lower
def bot {α : Type} (sz : Nat) (E : List Nat) : Kd α where
 sz := sz
 E := E
 K := fun _ _ _ => False
 M := fun _ _ _ _ _ => False
 K_len := fun h => h.elim
 K_one := fun h => h.elim
 K_below := fun _ h => h
 K_of_M := fun h => h
 M_mono := fun _ h => h
 M_bound := fun h => h
 M_move := fun _ h => h
 M_lower := fun _ h => h
def upto {α : Type} (F : Kd α → Kd α) (sz : Nat) (E : List Nat) : Nat → Kd α
 | 0 => bot sz E
 | n + 1 => F (upto F sz E n)
def fix {α : Type} (F : Kd α → Kd α) (sz : Nat) (E : List Nat) (hs : ∀ n, (upto F sz E n).sz = sz) (hE : ∀ n q, q ∈ (upto F sz E n).E → q ∈ E) : Kd α where
 sz := sz
 E := E
 K := fun w x cs => ∃ n, (upto F sz E n).K w x cs
 M := fun w base ok x cs => ∃ n, (upto F sz E n).M w base ok x cs
 K_len := by
  rintro w x cs ⟨n, h⟩
  rw [(upto F sz E n).K_len h, hs n]
 K_one := by
  rintro w x cs ⟨n, h⟩
  exact (upto F sz E n).K_one h
 K_below := by
  rintro w w1 x cs hb ⟨n, h⟩
  exact ⟨n, (upto F sz E n).K_below hb h⟩
 K_of_M := by
  rintro w base ok x cs ⟨n, h⟩
  exact ⟨n, (upto F sz E n).K_of_M h⟩
 M_mono := by
  rintro w base ok ok' x cs hok ⟨n, h⟩
  exact ⟨n, (upto F sz E n).M_mono hok h⟩
 M_bound := by
  rintro w base ok x cs ⟨n, h⟩
  refine ⟨n, (upto F sz E n).M_mono ?_ ((upto F sz E n).M_bound h)⟩
  rintro k ⟨h2, h3, h4, q, hq, hc⟩
  exact ⟨h2, h3, h4, q, hE n q hq, hc⟩
 M_move := by
  rintro w w1 base ok x cs hm ⟨n, h⟩
  exact ⟨n, (upto F sz E n).M_move hm h⟩
 M_lower := by
  rintro w base base' ok x cs hb ⟨n, h⟩
  exact ⟨n, (upto F sz E n).M_lower hb h⟩
theorem C_get {α : Type} {d : Kd α} {w : World} {A : Option Addr} {n : Nat} {xs : List α} (h : d.C w A n xs) (z : α) (i : Int) (h0 : 0 ≤ i) (h1 : i < n) :
 ∃ ad c, A = some ad ∧ c.length = d.sz ∧ d.K w (xs.getD i.toNat z) c ∧ ∀ j u, c[j]? = some u → w.cell? (ad.add (i.toNat * d.sz + j)) = some u := ReadsRow.get_ h z i h0 h1
theorem R_appended {α : Type} {d : Kd α} {e base : Nat} {ok okp : Nat → Prop} {W w1 : World} {v v1 : Value} {xs : List α} {p : α} {inner cs : List Value} (h0 : ∀ k, v.ownBlock = some k → ok k) (hr : Reps (d.M W base (fun k => ok k ∧ some k ≠ v.ownBlock)) d.sz xs inner) (hp : d.M W base okp p cs) (hokp : ∀ k, okp k → ok k ∧ some k ≠ v.ownBlock) (hfresh : ∀ k, W.heap.size ≤ k → ok k)
 (hown : w1.ownsRow base e d.sz v1 (xs.length + 1) (inner ++ cs)) (hg : W.grownBy w1 v.ownBlock) (hat : v1.ownBlock = v.ownBlock ∨ ∃ b, v1.ownBlock = some b ∧ W.heap.size ≤ b) : d.R e w1 base ok v1 (xs ++ [p]) := by
 have hne : ∀ k, some k ≠ v.ownBlock → k < W.heap.size → some k ≠ v1.ownBlock := by
  intro k hk hlt
  rcases hat with hat | ⟨b, hb, hle⟩
  · rw [hat]; exact hk
  · rw [hb]
    intro he
    injection he with he
    omega
 have step : ∀ {q : α} {c : List Value} {o : Nat → Prop}, d.M W base o q c → (∀ k, o k → ok k ∧ some k ≠ v.ownBlock) → d.M w1 base (fun k => ok k ∧ some k ≠ v1.ownBlock) q c := by
  intro q c o hq ho
  have h1 := d.M_move (w1 := w1) (fun k hk => hg.block k hk.2.2.1 (ho k hk.1).2) (d.M_bound hq)
  exact d.M_mono (fun k hk => ⟨(ho k hk.1).1, hne k (ho k hk.1).2 hk.2.2.1⟩) h1
 refine ⟨fun k hk => ?_, inner ++ cs, by rw [List.length_append, List.length_singleton]; exact hown, ?_⟩
 · rcases hat with hat | ⟨b, hb, hle⟩
   · exact h0 k (hat ▸ hk)
   · rw [hb] at hk
     injection hk with hk
     exact hfresh k (by omega)
 · exact (hr.imp_ (fun _ _ hq => step hq (fun _ hk => hk))).snoc (step hp hokp) (d.K_len (d.K_of_M hp))
section
variable {P : Program} {ops : Array Oper} {rest : List Oper} {o : Oper} {a : Act} {Q : Exit → Act → World → Prop} {α : Type}
theorem R_append (d : Kd α) {w0 W : World} (base : Nat) (hgd : o.guard = none) (s x : Operand) (t e : TypeId) (z : Value) (bytes : Nat)
 (ho : o.op = .call { callee := .builtin .append, args := #[s, x], argTypes := #[t, t] })
 (ht : P.underlying t = some (.slice e)) (hinfo : (P.info? e).map (fun i => (i.zero, i.size, i.bytes)) = some (some z, d.sz, bytes)) (hz : z.cells.size = d.sz) (hs0 : 0 < d.sz) (hb0 : 0 < bytes)
 (v : Value) (xs : List α) (p : α) (cs : List Value) (ok okp : Nat → Prop) (hs : a.eval s = v) (hx : a.eval x = .slice (some ⟨W.heap.size, 0, none⟩) 1 1) (hp : d.M W base okp p cs) (hokp : ∀ k, okp k → ok k ∧ some k ≠ v.ownBlock) (hfresh : ∀ k, W.heap.size ≤ k → ok k)
 (HO : d.R e W base ok v xs) (HB : Below base w0 W) (hbase : base ≤ W.heap.size) (hl : (xs.length + 1) * bytes ≤ 140737488355328)
 (h : ∀ v1 w1, d.R e w1 base ok v1 (xs ++ [p]) → Below base w0 w1 → W.grownBy w1 v.ownBlock → (v1.ownBlock = v.ownBlock ∨ ∃ b, v1.ownBlock = some b ∧ W.heap.size ≤ b) → wpList P ops Q rest (a.put o.dst v1) w1) :
 wpList P ops Q (o :: rest) a (W.alloc (.cells cs.toArray e)) := by
 obtain ⟨h0, inner, hown, hr⟩ := HO
 refine print_append_cells base hgd s x t e z d.sz bytes ho ht hinfo hz hs0 hb0 v xs.length inner cs hs hx (d.K_len (d.K_of_M hp)) (d.K_one (d.K_of_M hp)) hown HB hbase hl ?_
 intro v1 w1 hown1 hb1 hg1 hat1
 exact h v1 w1 (R_appended h0 hr hp hokp hfresh hown1 hg1 hat1) hb1 hg1 hat1
end
section
variable {P : Program} {ops : Array Oper} {o : Oper} {a : Act} {Q : Exit → Act → World → Prop} {Kc : Act → World → Prop} {α : Type}
end
theorem reps_scalar {α : Type} {enc : α → Value} (xs : List α) : Reps (fun (x : α) (cs : List Value) => cs = [enc x]) 1 xs (encs enc xs) := by
 refine ⟨by simp [encs], fun j p hj => ?_⟩
 obtain ⟨hl, hp⟩ := List.getElem?_eq_some_iff.1 hj
 have hl' : j < (encs enc xs).length := by rw [encs_length]; exact hl
 rw [Nat.mul_one, List.drop_eq_getElem_cons hl']
 simp [encs, hp]
theorem R_of_own {α : Type} {enc : α → Value} {h1 : ∀ x, (enc x).oneCell' = true} {e : Nat} {w : World} {base : Nat} {ok : Nat → Prop} {v : Value} {xs : List α} (ho : w.ownsRow base e 1 v xs.length (encs enc xs)) (hok : ∀ k, v.ownBlock = some k → ok k) : (scalar enc h1).R e w base ok v xs := ⟨hok, encs enc xs, ho, reps_scalar xs⟩
theorem own_of_R {α : Type} {enc : α → Value} {h1 : ∀ x, (enc x).oneCell' = true} {e : Nat} {w : World} {base : Nat} {ok : Nat → Prop} {v : Value} {xs : List α} (h : (scalar enc h1).R e w base ok v xs) : w.ownsRow base e 1 v xs.length (encs enc xs) := by
 obtain ⟨_, inner, ho, hr⟩ := h
 have : inner = encs enc xs := by
  apply List.ext_getElem?
  intro j
  rcases Nat.lt_or_ge j xs.length with hj | hj
  · have h2 := hr.2 j _ (List.getElem?_eq_getElem hj)
    have hl : j < inner.length := by have := hr.1; simp [scalar] at this; omega
    have h3 : (inner.drop (j * 1)).take 1 = [enc xs[j]] := h2
    rw [Nat.mul_one, List.drop_eq_getElem_cons hl] at h3
    have h4 : inner[j] = enc xs[j] := by
     have h5 := congrArg List.head? h3
     rw [List.take_succ_cons] at h5
     exact Option.some.inj h5
    rw [List.getElem?_eq_getElem hl, h4]
    simp [encs, List.getElem?_eq_getElem hj]
  · have h3 : inner.length = xs.length := by have := hr.1; simp [scalar] at this; omega
    rw [List.getElem?_eq_none (by omega), List.getElem?_eq_none (by rw [encs_length]; omega)]
 rw [← this]
 exact ho
theorem reads_of_C {α : Type} {enc : α → Value} {d : α} {h1 : ∀ x, (enc x).oneCell' = true} {w : World} {A : Option Addr} {n : Nat} {xs : List α} (h : (scalar enc h1).C w A n xs) : ReadsOf enc d w A n xs := by
 refine ⟨h.1, h.2.1, fun hn => ?_⟩
 obtain ⟨ad, e, hc⟩ := h.2.2 hn
 refine ⟨ad, e, fun j hj => ?_⟩
 have hl : j < xs.length := by have := h.1; omega
 obtain ⟨c, _, hK, hcell⟩ := hc j _ (List.getElem?_eq_getElem hl)
 have hK' : c = [enc xs[j]] := hK
 subst hK'
 have := hcell 0 _ rfl
 simpa [scalar, List.getD_eq_getElem?_getD, List.getElem?_eq_getElem hl] using this
end Kd
namespace Kd
structure Mono {α β : Type} (F : Kd α → Kd β) : Prop where
 sz : ∀ d d' : Kd α, d.sz = d'.sz → (F d).sz = (F d').sz
 K : ∀ d d' : Kd α, d.sz = d'.sz → (∀ w x cs, d.K w x cs → d'.K w x cs) → ∀ w x cs, (F d).K w x cs → (F d').K w x cs
 M : ∀ d d' : Kd α, d.sz = d'.sz → (∀ w base ok x cs, d.M w base ok x cs → d'.M w base ok x cs) → ∀ w base ok x cs, (F d).M w base ok x cs → (F d').M w base ok x cs
def Sub {α β : Type} (F : Kd α → Kd β) (E : List Nat) : Prop := ∀ d : Kd α, (∀ q, q ∈ d.E → q ∈ E) → ∀ q, q ∈ (F d).E → q ∈ E
section
variable {α : Type} {F : Kd α → Kd α} {sz : Nat} {E : List Nat} {hs : ∀ n, (upto F sz E n).sz = sz} {hE : ∀ n q, q ∈ (upto F sz E n).E → q ∈ E}
end
end Kd
namespace Kd
end Kd
namespace Kd
section
variable {α β : Type} {d : Kd α} {d' : Kd β} {e e' : Nat} {w w1 W : World} {base b b' : Nat} {ok ok' okv oku : Nat → Prop} {v u : Value} {xs : List α} {ys : List β}
theorem R_drewN (h : d.R e w base ok v xs) (m : Nat) : d.R e (w.drewN m) base ok v xs := R_below h (pw_below_drewN (Below.refl _ _) m)
theorem C_drewN {A : Option Addr} {n : Nat} (h : d.C w A n xs) (m : Nat) : d.C (w.drewN m) A n xs := C_below h (pw_below_drewN (Below.refl _ _) m)
theorem C_max {A : Option Addr} {n : Nat} (h : d.C w A n xs) : n ≤ 9223372036854775807 := h.2.1
theorem R_reads' {A : Option Addr} {n c : Nat} (h : d.R e w base ok (.slice A n c) xs) : n = xs.length ∧ n ≤ c ∧ d.C w A xs.length xs := by
 obtain ⟨A', c', he, hl, hr⟩ := R_reads h
 injection he with h1 h2 h3
 subst h1
 exact ⟨h2, by omega, hr⟩
theorem R_form (h : d.R e w base ok v xs) (hp : 0 < xs.length) : ∃ g cap, v = .slice (some ⟨g, 0, none⟩) xs.length cap ∧ base ≤ g ∧ g < w.heap.size ∧ ∃ cells, w.heap[g]? = some (.cells cells e (0, 0)) := by
 obtain ⟨inner, ho⟩ := R_own h
 obtain ⟨g, cap, he, hb, hl⟩ := ho.form hp
 obtain ⟨cells, hc⟩ := own_typed ho g (by rw [he]; simp [Value.ownBlock])
 exact ⟨g, cap, he, hb, hl, cells, hc⟩
end
section
variable {w W : World} {A : Option Addr} {n : Nat}
variable {α : Type} {enc : α → Value} {h1 : ∀ x, (enc x).oneCell' = true} {e base g cap : Nat} {ok : Nat → Prop} {xs : List α}
theorem R_cell (d : α) (h : (scalar enc h1).R e W base ok (.slice (some ⟨g, 0, none⟩) xs.length cap) xs) (i : Int) (h0 : 0 ≤ i) (hi : i < xs.length) : W.cell? ⟨g, i.toNat, none⟩ = some (enc (rdOf d xs i)) ∧ W.frozen? ⟨g, i.toNat, none⟩ = false := own_at_of (own_of_R h) i h0 hi
theorem R_put (h : (scalar enc h1).R e W base ok (.slice (some ⟨g, 0, none⟩) xs.length cap) xs) (i : Int) (x : α) : (scalar enc h1).R e (W.setCell ⟨g, i.toNat, none⟩ (enc x)) base ok (.slice (some ⟨g, 0, none⟩) xs.length cap) (xs.set i.toNat x) ∧ W.grownBy (W.setCell ⟨g, i.toNat, none⟩ (enc x)) (some g) := by
 obtain ⟨ho, hg⟩ := own_store_of (own_of_R h) i x
 exact ⟨R_of_own (by rw [List.length_set]; exact ho) h.1, hg⟩
end
section
variable {P : Program} {ops : Array Oper} {rest : List Oper} {o : Oper} {a : Act} {Q : Exit → Act → World → Prop}
theorem event_run {W w1 : World} {v : Value} (hgd : o.guard = none) (hrun : (execOp a.eval o).run P W = .ok (.value v) w1) (h : wpList P ops Q rest (a.put o.dst v) w1) : wpList P ops Q (o :: rest) a W := by
 refine wpList_plain hgd fun K hK => ?_
 unfold Oper.wp
 rw [hrun]
 exact hK _ _ h
variable {α : Type}
theorem R_lit (d : Kd α) {w0 W : World} (base e : Nat) (hgd : o.guard = none) {N : Tmp} (_hd : o.dst = some N) {xs : List α} {inner : List Value} {ok okp : Nat → Prop}
 (hrun : (execOp a.eval o).run P W = .ok (.value (.slice (some ⟨W.heap.size, 0, none⟩) xs.length xs.length)) (W.alloc (.cells inner.toArray e)))
 (hrep : Reps (d.M W base okp) d.sz xs inner) (hok : ∀ k, okp k → ok k) (hfresh : ok W.heap.size) (HB : Below base w0 W) (hbase : base ≤ W.heap.size) (hm : xs.length ≤ 9223372036854775807)
 (h : ∀ v1 w1, d.R e w1 base ok v1 xs → Below base w0 w1 → W.grownBy w1 none → (∃ b, v1.ownBlock = some b ∧ W.heap.size ≤ b) → wpList P ops Q rest (a.put o.dst v1) w1) : wpList P ops Q (o :: rest) a W := by
 refine event_run hgd hrun (h _ _ ⟨fun k hk => ?_, inner, ?_, ?_⟩ (HB.alloc hbase _) (World.grownBy_alloc W _ none) ⟨W.heap.size, by simp [Value.ownBlock], Nat.le_refl _⟩)
 · have : W.heap.size = k := by simpa [Value.ownBlock] using hk
   subst this
   exact hfresh
 · have h2 := World.ownsRow_lit (base := base) (e := e) (size := d.sz) W inner.toArray xs.length hbase (by simpa [maxLen] using hm) (by simpa using hrep.1)
   simpa using h2
 · refine hrep.imp_ (fun p c hp => d.M_mono (fun k hk => ⟨hok k hk.1, fun he => ?_⟩) (M_below (d.M_bound hp) (below_alloc (Below.refl _ _) _)))
   have h3 : k = W.heap.size := by simpa [Value.ownBlock] using he
   have := hk.2.2.1
   omega
theorem reps_made {α : Type} {R : α → List Value → Prop} {z : Value} {size : Nat} {z0 : α} (hz : z.cells.size = size) (hs : 0 < size) (h0 : R z0 z.cells.toList) (m : Nat) : Reps R size (List.replicate m z0) (madeCells z.cells (m * size)).toList := by
 refine ⟨by simp [size_madeCells], fun j p hj => ?_⟩
 obtain ⟨hjl, hp⟩ := List.getElem?_eq_some_iff.1 hj
 have hjm : j < m := by simpa using hjl
 have hp' : z0 = p := by simpa using hp
 subst hp'
 have hle : j * size + size ≤ m * size := by rw [← Nat.succ_mul]; exact Nat.mul_le_mul_right _ hjm
 have : ((madeCells z.cells (m * size)).toList.drop (j * size)).take size = z.cells.toList := by
  apply List.ext_getElem
  · simp [size_madeCells, hz]
    omega
  · intro i h1 h2
    have hi : i < size := by rw [Array.length_toList, hz] at h2; exact h2
    have hmod : (j * size + i) % size = i := by
     rw [Nat.mul_comm, Nat.mul_add_mod]
     exact Nat.mod_eq_of_lt hi
    simp [madeCells, hz, hmod]
    rw [getElem!_pos z.cells i (by omega)]
 rw [this]
 exact h0
theorem R_make (d : Kd α) {w0 W : World} (base e : Nat) (hgd : o.guard = none) {N : Tmp} (hd : o.dst = some N) (t : TypeId) (x y : Operand) (ho : o.op = .makeSlice t x y) (n : Int) (hx : a.eval x = .int .i64 n) (hy : a.eval y = .int .i64 n)
 (ht : P.underlying t = some (.slice e)) (z : Value) (bytes : Nat) (hinfo : (P.info? e).map (fun i => (i.zero, i.size, i.bytes)) = some (some z, d.sz, bytes)) (hz : z.cells.size = d.sz) (hs0 : 0 < d.sz) (hb0 : 0 < bytes)
 (z0 : α) {ok okp : Nat → Prop} (hzero : d.M W base okp z0 z.cells.toList) (hok : ∀ k, okp k → ok k) (hfresh : ok W.heap.size) (h0 : 0 ≤ n) (hl : n.toNat * bytes ≤ 281474976710656) (HB : Below base w0 W) (hbase : base ≤ W.heap.size)
 (h : ∀ v1 w1, d.R e w1 base ok v1 (List.replicate n.toNat z0) → Below base w0 w1 → W.grownBy w1 none → (∃ b, v1.ownBlock = some b ∧ W.heap.size ≤ b) → wpList P ops Q rest (a.put o.dst v1) w1) : wpList P ops Q (o :: rest) a W := by
 obtain ⟨m, rfl⟩ := Int.eq_ofNat_of_zero_le h0
 simp only [Int.toNat_natCast] at hl h
 obtain ⟨i0, hi, hzz⟩ := Option.map_eq_some_iff.1 hinfo
 simp only [Prod.mk.injEq] at hzz
 obtain ⟨hz0, hz1, hz2⟩ := hzz
 have hm : m ≤ 281474976710656 := Nat.le_trans (Nat.le_mul_of_pos_right _ hb0) hl
 have hr := run_make (P := P) W t e i0 z ht hi hz0 .i64 .i64 (m : Int) (m : Int) (by omega) (by omega)
  (by
    have h3 : ((i0.bytes * m : Nat) : Int) ≤ 281474976710656 := by rw [hz2, Nat.mul_comm]; omega
    rwa [Int.natCast_mul] at h3) (by omega)
 simp only [Int.toNat_natCast] at hr
 rw [hz1] at hr
 refine R_lit d base e hgd hd (xs := List.replicate m z0) (inner := (madeCells z.cells (m * d.sz)).toList) (okp := okp) (ok := ok) ?_ (reps_made hz hs0 hzero m) hok hfresh HB hbase (by simp; omega) h
 simp [execOp, ho, hx, hy, hr]
end
end Kd
section
variable {P : Program}
end
def QRow (w : World) (base : Nat) (e : TypeId) (size : Nat) (v : Value) (n : Nat) (xs : List Value) : Prop :=
 xs.length = n * size ∧
 ((n = 0 ∧ ∃ A, v = .slice A 0 0 ∧ ∀ a, A = some a → base ≤ a.block ∧ ∃ cur, w.heap[a.block]? = some (.cells cur e (0, 0))) ∨
  ∃ g off cap cur, v = .slice (some ⟨g, off * size, none⟩) n cap ∧ base ≤ g ∧ w.heap[g]? = some (.cells cur e (0, 0)) ∧ n ≤ cap ∧ off + cap ≤ maxLen ∧ cur.size = (off + cap) * size ∧ (cur.toList.drop (off * size)).take (n * size) = xs)
section
variable {w w1 : World} {base n size : Nat} {e : TypeId} {v : Value} {xs : List Value}
theorem setCells_far {g : Nat} : ∀ (vs : List Value) (o : Nat) {w : World} (k : Nat), k ≠ g → (w.setCells g o vs).heap[k]? = w.heap[k]?
 | [], _, _, _, _ => rfl
 | v :: r, o, w, k, hk => by
   rw [World.setCells, setCells_far r (o + 1) k hk]
   exact Below.heap_setCell w ⟨g, o, none⟩ v k hk
theorem setCells_same (g : Nat) : ∀ (vs : List Value) (o : Nat) (w : World), (w.setCells g o vs).os = w.os ∧ (w.setCells g o vs).tape = w.tape ∧ (w.setCells g o vs).output = w.output ∧ (w.setCells g o vs).heap.size = w.heap.size
 | [], _, _ => ⟨rfl, rfl, rfl, rfl⟩
 | v :: r, o, w => by
   obtain ⟨h1, h2, h3, h4⟩ := setCells_same g r (o + 1) (w.setCell ⟨g, o, none⟩ v)
   rw [World.setCells]
   exact ⟨h1, h2, h3, by rw [h4]; simp [World.setCell]⟩
theorem setCells_row {g : Nat} {e : TypeId} : ∀ (vs : List Value) (o : Nat) (w : World) (cur : Array Value), w.heap[g]? = some (.cells cur e (0, 0)) → o + vs.length ≤ cur.size →
 ∃ cur', (w.setCells g o vs).heap[g]? = some (.cells cur' e (0, 0)) ∧ cur'.size = cur.size ∧ cur'.toList = cur.toList.take o ++ vs ++ cur.toList.drop (o + vs.length)
 | [], o, w, cur, h, _ => ⟨cur, h, rfl, by simp⟩
 | v :: r, o, w, cur, h, hl => by
   have h2 := blk_set h o v
   simp only [List.length_cons] at hl
   obtain ⟨cur', h3, h4, h5⟩ := setCells_row r (o + 1) (w.setCell ⟨g, o, none⟩ v) _ h2 (by simp; omega)
   refine ⟨cur', h3, by rw [h4]; simp, ?_⟩
   rw [h5, Array.toList_setIfInBounds]
   have ho : o < cur.toList.length := by rw [Array.length_toList]; omega
   rw [List.take_set, List.drop_set_of_lt (by omega)]
   simp only [List.length_cons]
   rw [show o + 1 + r.length = o + (r.length + 1) by omega]
   congr 1
   rw [List.take_succ_eq_append_getElem ho, List.set_append_right _ _ (by rw [List.length_take]; omega)]
   have ho' : o < cur.size := by omega
   simp [Nat.min_eq_left (Nat.le_of_lt ho')]
end
section
variable {P : Program}
end
namespace Kd
def Q {α : Type} (d : Kd α) (e : Nat) (w : World) (base : Nat) (ok : Nat → Prop) (v : Value) (xs : List α) : Prop :=
 (∀ k, v.ownBlock = some k → ok k) ∧ ∃ inner, QRow w base e d.sz v xs.length inner ∧ Reps (d.M w base (fun k => ok k ∧ some k ≠ v.ownBlock)) d.sz xs inner
section
variable {α : Type} {d : Kd α} {e : Nat} {w w1 W : World} {base : Nat} {ok ok' : Nat → Prop} {v : Value} {xs : List α}
end
section
variable {P : Program} {ops : Array Oper} {rest : List Oper} {o : Oper} {a : Act} {Q' : Exit → Act → World → Prop} {Kc : Act → World → Prop} {α : Type}
end
end Kd
namespace Kd
section
variable {α : Type} {d : Kd α} {e e' : Nat} {w w1 W : World} {base : Nat} {ok : Nat → Prop} {u v : Value} {xs : List α}
end
end Kd
namespace Kd
section
variable {α : Type} {d : Kd α} {e base g n cap : Nat} {ok okp : Nat → Prop} {W : World} {xs : List α}
end
end Kd
namespace Kd
def fixed {α : Type} (d : Kd α) (w0 : World) : Kd α where
 sz := d.sz
 E := []
 K := fun _ x cs => d.K w0 x cs
 M := fun _ _ _ x cs => d.K w0 x cs
 K_len := d.K_len
 K_one := d.K_one
 K_below := fun _ h => h
 K_of_M := fun h => h
 M_mono := fun _ h => h
 M_bound := fun h => h
 M_move := fun _ h => h
 M_lower := fun _ h => h
def or_ {α : Type} (a b : Kd α) (h : b.sz = a.sz) : Kd α where
 sz := a.sz
 E := a.E ++ b.E
 K := fun w x cs => a.K w x cs ∨ b.K w x cs
 M := fun w base ok x cs => a.M w base ok x cs ∨ b.M w base ok x cs
 K_len := fun hk => hk.elim a.K_len (fun hk => (b.K_len hk).trans h)
 K_one := fun hk => hk.elim a.K_one b.K_one
 K_below := fun hb hk => hk.imp (a.K_below hb) (b.K_below hb)
 K_of_M := fun hk => hk.imp a.K_of_M b.K_of_M
 M_mono := fun hok hk => hk.imp (a.M_mono hok) (b.M_mono hok)
 M_bound := fun hk => hk.imp
  (fun hk => a.M_mono (fun _ ⟨h1, h2, h3, q, hq, hc⟩ => ⟨h1, h2, h3, q, List.mem_append_left _ hq, hc⟩) (a.M_bound hk))
  (fun hk => b.M_mono (fun _ ⟨h1, h2, h3, q, hq, hc⟩ => ⟨h1, h2, h3, q, List.mem_append_right _ hq, hc⟩) (b.M_bound hk))
 M_move := fun hm hk => hk.imp (a.M_move hm) (b.M_move hm)
 M_lower := fun hb hk => hk.imp (a.M_lower hb) (b.M_lower hb)
def mix {α : Type} (e : Nat) (d dm : Kd α) (w0 : World) : Kd (List α) := or_ (fixed (slice e d) w0) (slice e dm) rfl
section
variable {α : Type} {F : Kd α → Kd α} {sz : Nat} {E : List Nat} {hs : ∀ n, (upto F sz E n).sz = sz} {hE : ∀ n q, q ∈ (upto F sz E n).E → q ∈ E}
end
end Kd
namespace Kd
section
variable {P : Program} {ops : Array Oper} {rest : List Oper} {o : Oper} {a : Act} {Q : Exit → Act → World → Prop} {α : Type}
theorem R_copy {enc : α → Value} {h1 : ∀ x, (enc x).oneCell' = true} (d : α) {w0 W : World} (base : Nat) (hgd : o.guard = none) (s x : Operand) (t t' e : TypeId)
 (ho : o.op = .call { callee := .builtin .copy, args := #[s, x], argTypes := #[t, t'] }) (ht : P.underlying t = some (.slice e)) (hinfo : (P.info? e).map (·.size) = some 1)
 (v : Value) (xs ys : List α) (A : Option Addr) (m c : Nat) (ok : Nat → Prop) (hs : a.eval s = v) (hx : a.eval x = .slice A m c)
 (HO : (scalar enc h1).R e W base ok v xs) (HR : (scalar enc h1).C W A m ys) (HB : Below base w0 W) (hbase : base ≤ W.heap.size)
 (h : ∀ w1, (scalar enc h1).R e w1 base ok v (ys.take (min m xs.length) ++ xs.drop (min m xs.length)) → Below base w0 w1 → W.grownBy w1 v.ownBlock → wpList P ops Q rest (a.put o.dst (.int .i64 ((min m xs.length : Nat) : Int))) w1) :
 wpList P ops Q (o :: rest) a W := by
 have hR := reads_of_C (enc := enc) (d := d) (h1 := h1) HR
 have hm : ys.length = m := hR.1
 have hown := own_of_R HO
 have fin : ∀ w1, (Builtin.copy_ #[t, t'] o.type #[v, .slice A m c]).run P W = .ok (goInt ((min m xs.length : Nat) : Int)) w1 → (scalar enc h1).R e w1 base ok v (ys.take (min m xs.length) ++ xs.drop (min m xs.length)) → W.grownBy w1 v.ownBlock → wpList P ops Q (o :: rest) a W := by
  intro w1 hr hrow hg
  refine wpList_plain hgd fun K hK => ?_
  unfold Oper.wp execOp
  simp only [ho, resolve, invoke, builtin, Sem.run_bind, Sem.run_pure, Result.andThen_ok, List.map_toArray, List.map_cons, List.map_nil, hs, hx, hr]
  exact hK _ _ (h w1 hrow (HB.grown hg hbase (own_base hown)) hg)
 rcases Nat.eq_zero_or_pos (min m xs.length) with h0 | hp
 · obtain ⟨A', c', hv⟩ := own_slice hown
   refine fin W ?_ (by rw [h0, List.take_zero, List.drop_zero, List.nil_append]; exact HO) (World.grownBy.refl W _)
   rw [h0, hv]
   exact run_copy_none W t t' o.type e A' A xs.length c' m c ht hinfo h0
 · obtain ⟨ad, hA, hc⟩ := hR.2.2 (by omega)
   rcases hown.2 with ⟨_, hx0⟩ | ⟨g, cap, cur, hv, hb, hh, hnc, hcm, hcs, htake⟩
   · omega
   have hcs1 : cur.size = cap := by omega
   have hsrc : ∀ j u, (encs enc (ys.take (min m xs.length)))[j]? = some u → W.cell? (ad.add j) = some u := by
    intro j u hu
    have hj : j < (ys.take (min m xs.length)).length := by
     rcases Nat.lt_or_ge j (ys.take (min m xs.length)).length with h | h
     · exact h
     · rw [List.getElem?_eq_none (by rw [encs_length]; exact h)] at hu
       cases hu
    have hjm : j < min m xs.length := by rw [List.length_take] at hj; omega
    rw [encs_get (d := d) _ j hj] at hu
    rw [hc j (by omega), ← hu]
    simp [List.getD_eq_getElem?_getD, hjm]
   have hkl : (encs enc (ys.take (min m xs.length))).length = min m xs.length := by rw [encs_length, List.length_take]; omega
   have hr := run_copy_cells (P := P) W t t' o.type e g 0 xs.length cap ad m c (encs enc (ys.take (min m xs.length))) ht hinfo (by rw [hkl]) hsrc
    (fun j hj => by rw [cell_of_row W g _ cur e (0, 0) hh]; simp; omega) (fun j _ => blk_frozen hh _) (by intro u hu; simp only [encs, List.mem_map] at hu; obtain ⟨q, _, rfl⟩ := hu; exact h1 q)
   obtain ⟨cur', h3, h4, h5⟩ := setCells_row (encs enc (ys.take (min m xs.length))) 0 W cur hh (by rw [hkl]; omega)
   obtain ⟨s1, s2, s3, s4⟩ := setCells_same g (encs enc (ys.take (min m xs.length))) 0 W
   refine fin _ (by rw [hv, hA, hr, hkl]) (R_of_own ?_ HO.1) ⟨s1, s2, s3, by rw [s4]; exact Nat.le_refl _, fun k _ hk => setCells_far _ _ k (fun he => hk (by rw [hv, he]; simp [Value.ownBlock]))⟩
   have hln : (ys.take (min m xs.length) ++ xs.drop (min m xs.length)).length = xs.length := by
    rw [List.length_append, List.length_take, List.length_drop]
    omega
   rw [hln]
   refine ⟨by rw [encs_length, hln, Nat.mul_one], .inr ⟨g, cap, cur', hv, hb, h3, hnc, hcm, by rw [h4, hcs], ?_⟩⟩
   rw [h5, List.take_zero, List.nil_append, hkl, Nat.zero_add, encs_append, Nat.mul_one]
   rw [List.take_append, hkl, List.take_of_length_le (by rw [hkl]; omega)]
   congr 1
   have htk : cur.toList.take xs.length = encs enc xs := by rw [← htake, Nat.mul_one]
   have hd : encs enc (xs.drop (min m xs.length)) = (encs enc xs).drop (min m xs.length) := by simp [encs, List.map_drop]
   rw [hd, ← htk, List.drop_take]
end
end Kd
theorem run_store_run {P : Program} {w : World} {g o : Nat} {e : TypeId} {cur : Array Value} (t : TypeId) (u : Value) (seg : List Value) (hh : w.heap[g]? = some (.cells cur e (0, 0))) (hu : u.cells.toList = seg) (ht : (P.info? t).map (·.size) = some seg.length)
 (hfit : o + seg.length ≤ cur.size) (h1 : ∀ q ∈ seg, q.oneCell' = true) : (Instr.storeAt t (.pointer (some ⟨g, o, none⟩)) u).run P w = .ok () (w.setCells g o seg) := by
 obtain ⟨i, hi, hsz⟩ := Option.map_eq_some_iff.1 ht
 have hc : u.cells.size = i.size := by rw [hsz, ← hu, Array.length_toList]
 have hst := run_storeCells_cells (P := P) g o seg 0 w (fun j hj => by rw [cell_of_row w g _ cur e (0, 0) hh]; simp; omega) (fun j _ => blk_frozen hh _) h1
 simp only [Nat.add_zero] at hst
 simp [Instr.storeAt, Instr.sureAddr, storeVar, sizeOf, typeInfo, hi, hc, hu, hst]
namespace Kd
section
variable {P : Program} {ops : Array Oper} {rest : List Oper} {o : Oper} {a : Act} {Q : Exit → Act → World → Prop} {α : Type}
end
end Kd
namespace Kd
section
variable {α : Type} {k : Kd α} {w : World} {A : Option Addr} {xs : List α} {m c : Nat}
end
end Kd
section
variable {P : Program}
end
namespace Kd
section
variable {α β : Type} {d : Kd α} {d' : Kd β} {e e' base base' n : Nat} {ok ok' : Nat → Prop} {w W w1 W1 : World} {v u : Value} {xs : List α} {ys : List β} {A : Option Addr} {c : Nat}
end
section
variable {α : Type} {enc : α → Value} {h1 : ∀ x, (enc x).oneCell' = true} {w W : World} {A : Option Addr} {n g : Nat} {xs : List α}
end
end Kd
namespace Kd
section
variable {α : Type} {d : Kd α} {e base g : Nat} {ok : Nat → Prop} {w w1 : World} {v : Value} {xs : List α} {o : Obj}
end
end Kd
section
variable {P : Program} {ops : Array Oper} {rest : List Oper} {o : Oper} {a : Act} {Q : Exit → Act → World → Prop}
theorem Kd.R_append_row {α : Type} (enc : α → Value) (d : α) {h1 : ∀ x : α, (enc x).oneCell' = true} {w0 W : World} (base : Nat) (hgd : o.guard = none) (s x : Operand) (t e : TypeId) (z : Value) (bytes : Nat)
 (ho : o.op = .call { callee := .builtin .append, args := #[s, x], argTypes := #[t, t] })
 (ht : P.underlying t = some (.slice e)) (hinfo : (P.info? e).map (fun i => (i.zero, i.size, i.bytes)) = some (some z, 1, bytes)) (hz : z.cells.size = 1) (hb0 : 0 < bytes)
 (v : Value) (xs ys : List α) (A : Option Addr) (m c : Nat) (ok : Nat → Prop) (hs : a.eval s = v) (hx : a.eval x = .slice A m c) (hfresh : ∀ k, W.heap.size ≤ k → ok k)
 (HO : (Kd.scalar enc h1).R e W base ok v xs) (HR : (Kd.scalar enc h1).C W A m ys) (HB : Below base w0 W) (hbase : base ≤ W.heap.size) (hl : (xs.length + m) * bytes ≤ 140737488355328)
 (h : ∀ v1 w1, (Kd.scalar enc h1).R e w1 base ok v1 (xs ++ ys) → Below base w0 w1 → W.grownBy w1 v.ownBlock → (v1.ownBlock = v.ownBlock ∨ ∃ b, v1.ownBlock = some b ∧ W.heap.size ≤ b) → wpList P ops Q rest (a.put o.dst v1) w1) :
 wpList P ops Q (o :: rest) a W := by
 refine print_append_row_of (w0 := w0) enc d base hgd s x t e z bytes ho ht hinfo hz hb0 h1 v xs ys A m c hs hx (Kd.own_of_R HO) (Kd.reads_of_C (d := d) HR) HB hbase hl ?_
 intro v1 w1 hown hb hg hat
 refine h v1 w1 (Kd.R_of_own hown (fun k hk => ?_)) hb hg hat
 rcases hat with e1 | ⟨b, e1, hbb⟩
 · exact HO.1 k (by rw [← e1]; exact hk)
 · rw [e1] at hk
   injection hk with hk
   subst hk
   exact hfresh _ hbb
end
namespace Kd
section
variable {α : Type} {enc : α → Value} {h1 : ∀ x, (enc x).oneCell' = true} {e base g n cap : Nat} {ok : Nat → Prop} {W : World} {xs : List α}
theorem R_celln (d : α) (h : (scalar enc h1).R e W base ok (.slice (some ⟨g, 0, none⟩) n cap) xs) (i : Int) (h0 : 0 ≤ i) (hi : i < n) : W.cell? ⟨g, i.toNat, none⟩ = some (enc (rdOf d xs i)) ∧ W.frozen? ⟨g, i.toNat, none⟩ = false := by
 obtain ⟨rfl, _⟩ := R_reads' h
 exact R_cell d h i h0 hi
theorem R_putn (h : (scalar enc h1).R e W base ok (.slice (some ⟨g, 0, none⟩) n cap) xs) (i : Int) (x : α) : (scalar enc h1).R e (W.setCell ⟨g, i.toNat, none⟩ (enc x)) base ok (.slice (some ⟨g, 0, none⟩) n cap) (xs.set i.toNat x) := by
 obtain ⟨rfl, _⟩ := R_reads' h
 exact (R_put h i x).1
end
end Kd
section
variable {P : Program} {ops : Array Oper} {rest : List Oper} {o : Oper} {a : Act} {Q : Exit → Act → World → Prop}
theorem store_event {W w1 : World} (hgd : o.guard = none) {t : TypeId} {p : Tmp} {v : Operand} (_ho : o.op = .store t (.tmp p) v) (hN : o.dst = none)
 (hrun : (execOp a.eval o).run P W = .ok .skip w1) (h : ∀ w', w' = w1 → wpList P ops Q rest a w') : wpList P ops Q (o :: rest) a W := by
 refine wpList_plain hgd fun K hK => ?_
 unfold Oper.wp
 rw [hrun]
 show K (a.put o.dst undef) w1
 rw [hN]
 exact hK _ _ (h _ rfl)
end
namespace Kd
section
variable {α : Type} {enc : α → Value} {h1 : ∀ x, (enc x).oneCell' = true} {e base g n cap : Nat} {ok : Nat → Prop} {W : World} {xs : List α}
theorem R_putg (h : (scalar enc h1).R e W base ok (.slice (some ⟨g, 0, none⟩) n cap) xs) (i : Int) (x : α) : (scalar enc h1).R e (W.setCell ⟨g, i.toNat, none⟩ (enc x)) base ok (.slice (some ⟨g, 0, none⟩) n cap) (xs.set i.toNat x) ∧ W.grownBy (W.setCell ⟨g, i.toNat, none⟩ (enc x)) (some g) := by
 obtain ⟨rfl, _⟩ := R_reads' h
 exact R_put h i x
end
end Kd
section
variable {P : Program} {ops : Array Oper} {rest : List Oper} {o : Oper} {a : Act} {Q : Exit → Act → World → Prop} {W : World}
theorem gate_dst {N : Tmp} (_hN : o.dst = some N) (h : wpList P ops Q (o :: rest) a W) : wpList P ops Q (o :: rest) a W := h
theorem gate_store {t : TypeId} {p : Tmp} {v : Operand} (_ho : o.op = .store t (.tmp p) v) (h : wpList P ops Q (o :: rest) a W) : wpList P ops Q (o :: rest) a W := h
end
section
variable {P : Program} {ops : Array Oper} {o : Oper} {a : Act} {Q : Exit → Act → World → Prop} {Kc : Act → World → Prop}
namespace Kd
variable {α : Type}
end Kd
end
inductive Vals (P : Program) (tmps : Array Value) (w : World) : List ResultVar → List Value → Prop where
 | nil : Vals P tmps w [] []
 | tmp {u : Tmp} {rs : List ResultVar} {vs : List Value} (h : Vals P tmps w rs vs) : Vals P tmps w (.tmp u :: rs) (tmps.getD u undef :: vs)
 | cell {p : Tmp} {ty : TypeId} {rs : List ResultVar} {vs : List Value} (g : Nat) (t : TypeId) (cs : Array Value) (fr : Nat × Nat) (d : TypeDesc)
    (hp : tmps.getD p undef = .pointer (some ⟨g, 0, none⟩)) (hg : w.heap[g]? = some (.cells cs t fr))
    (hu : P.underlying ty = some d) (hd : (match d with | .struct _ | .array _ _ => true | _ => false) = true) (hi : (P.info? ty).map (·.size) = some cs.size)
    (h : Vals P tmps w rs vs) : Vals P tmps w (.cell p ty :: rs) (.agg cs :: vs)
section
variable {P : Program} {tmps : Array Value} {w : World}
theorem vals_run {rs : List ResultVar} {vs : List Value} (hv : Vals P tmps w rs vs) (f : ResultVar → Sem Value) (hf : ∀ u, f (.tmp u) = pure (tmps.getD u undef)) (hc : ∀ a t, f (.cell a t) = (do loadVar t (← asAddr (tmps.getD a undef)))) :
 (rs.mapM f).run P w = .ok vs w := by
 induction hv with
 | nil => simp
 | tmp h ih => simp [List.mapM_cons, hf, ih]
 | cell g t cs fr d hp hg hu hd hi h ih =>
   rw [List.mapM_cons, hc, hp]
   simp [asAddr, run_loadVar_row w g t _ cs fr d hg hu hd hi, ih]
theorem results_single {fn : Func} {r : ResultVar} {v : Value} (h : fn.results = #[r]) (hv : Vals P tmps w [r] [v]) : (results fn tmps).run P w = .ok v w := by
 unfold results
 rw [show fn.results = [r].toArray from h, List.mapM_toArray]
 simp only [Sem.run_bind, Sem.run_map]
 rw [vals_run hv]
 · simp
 · intro u
   rfl
 · intro a t
   rfl
end
namespace Kd
section
variable {P : Program} {α : Type}
end
section
variable {P : Program} {ops : Array Oper} {rest : List Oper} {o : Oper} {a : Act} {Q : Exit → Act → World → Prop} {Kc : Act → World → Prop} {α : Type}
end
end Kd
end Go.Proofs.YtkdicconchobfaaGreatDoorW.PrintWords

namespace Limb
def nv : List Nat → Nat
 | [] => 0
 | x :: l => x + 2 ^ 64 * nv l
def Wf (l : List Nat) : Prop := ∀ x ∈ l, x < 2 ^ 64
theorem Wf.nil : Wf [] := by intro x hx; cases hx
theorem Wf.cons {x : Nat} {l : List Nat} (hx : x < 2 ^ 64) (hl : Wf l) : Wf (x :: l) := by
 intro y hy
 rcases List.mem_cons.1 hy with rfl | hy
 · exact hx
 · exact hl y hy
theorem Wf.append {a b : List Nat} (ha : Wf a) (hb : Wf b) : Wf (a ++ b) := by
 intro x hx
 rcases List.mem_append.1 hx with h | h
 · exact ha x h
 · exact hb x h
theorem Wf.snoc {a : List Nat} {x : Nat} (ha : Wf a) (hx : x < 2 ^ 64) : Wf (a ++ [x]) := ha.append (.cons hx .nil)
theorem Wf.take {l : List Nat} (h : Wf l) (n : Nat) : Wf (l.take n) := fun x hx => h x (List.mem_of_mem_take hx)
theorem Wf.get {l : List Nat} (h : Wf l) {i x : Nat} (hi : l[i]? = some x) : x < 2 ^ 64 := h x (List.mem_of_getElem? hi)
theorem Wf.set {l : List Nat} (h : Wf l) {i x : Nat} (hx : x < 2 ^ 64) : Wf (l.set i x) := by
 intro y hy
 rcases List.mem_or_eq_of_mem_set hy with h1 | rfl
 · exact h y h1
 · exact hx
theorem Wf.replicate (n : Nat) : Wf (List.replicate n 0) := by
 intro x hx
 rw [List.eq_of_mem_replicate hx]; decide
theorem pw (n : Nat) : (2 : Nat) ^ (64 * (n + 1)) = 2 ^ 64 * 2 ^ (64 * n) := by rw [← Nat.pow_add]; congr 1; omega
theorem nv_append (a b : List Nat) : nv (a ++ b) = nv a + 2 ^ (64 * a.length) * nv b := by
 induction a with
 | nil => simp [nv]
 | cons x a ih =>
   simp only [List.cons_append, nv, ih, List.length_cons, pw]
   rw [Nat.mul_add, Nat.mul_assoc]; omega
theorem nv_lt {l : List Nat} (h : Wf l) : nv l < 2 ^ (64 * l.length) := by
 induction l with
 | nil => simp [nv]
 | cons x l ih =>
   have h1 := ih (fun y hy => h y (by simp [hy]))
   have h2 := h x (by simp)
   simp only [nv, List.length_cons, pw]
   have h3 : 2 ^ 64 * (nv l + 1) ≤ 2 ^ 64 * 2 ^ (64 * l.length) := Nat.mul_le_mul_left _ h1
   omega
theorem nv_replicate (n : Nat) : nv (List.replicate n 0) = 0 := by
 induction n with
 | zero => rfl
 | succ n ih => simp [List.replicate_succ, nv, ih]
theorem nv_zeros {l : List Nat} (h : ∀ x ∈ l, x = 0) : nv l = 0 := by
 induction l with
 | nil => rfl
 | cons x l ih => simp only [nv]; rw [ih (fun y hy => h y (by simp [hy])), h x (by simp)]
theorem nv_snoc (l : List Nat) (x : Nat) : nv (l ++ [x]) = nv l + 2 ^ (64 * l.length) * x := by rw [nv_append]; simp [nv]
def wd (l : List Nat) (i : Nat) : Nat := l[i]?.getD 0
theorem wd_of {l : List Nat} {i x : Nat} (h : l[i]? = some x) : wd l i = x := by unfold wd; rw [h]; rfl
theorem wd_ge {l : List Nat} {i : Nat} (h : l.length ≤ i) : wd l i = 0 := by unfold wd; rw [List.getElem?_eq_none h]; rfl
theorem wd_lt {l : List Nat} (h : Wf l) (i : Nat) : wd l i < 2 ^ 64 := by
 unfold wd
 cases hx : l[i]? with
 | none => decide
 | some x => exact h.get hx
theorem nv_take_succ (l : List Nat) (i : Nat) : nv (l.take (i + 1)) = nv (l.take i) + 2 ^ (64 * i) * wd l i := by
 by_cases h : i < l.length
 · rw [List.take_succ_eq_append_getElem h, nv_snoc, List.length_take, Nat.min_eq_left (by omega)]
   unfold wd; rw [List.getElem?_eq_getElem h]; rfl
 · rw [wd_ge (by omega), List.take_of_length_le (by omega), List.take_of_length_le (by omega)]; omega
theorem nv_take_all {l : List Nat} {n : Nat} (h : l.length ≤ n) : nv (l.take n) = nv l := by rw [List.take_of_length_le h]
theorem nv_split (l : List Nat) (n : Nat) : nv l = nv (l.take n) + 2 ^ (64 * n) * nv (l.drop n) := by
 by_cases h : n ≤ l.length
 · conv => lhs; rw [← List.take_append_drop n l]
   rw [nv_append, List.length_take, Nat.min_eq_left h]
 · rw [List.take_of_length_le (by omega), List.drop_eq_nil_of_le (by omega)]; simp [nv]
theorem nv_take_lt {l : List Nat} (h : Wf l) (n : Nat) : nv (l.take n) < 2 ^ (64 * n) := by
 refine Nat.lt_of_lt_of_le (nv_lt (h.take n)) (Nat.pow_le_pow_right (by decide) ?_)
 rw [List.length_take]; omega
theorem nv_drop {l : List Nat} (h : Wf l) (n : Nat) : nv (l.drop n) = nv l / 2 ^ (64 * n) := by
 rw [nv_split l n, Nat.add_mul_div_left _ _ (Nat.two_pow_pos _), Nat.div_eq_of_lt (nv_take_lt h n), Nat.zero_add]
theorem nv_take {l : List Nat} (h : Wf l) (n : Nat) : nv (l.take n) = nv l % 2 ^ (64 * n) := by
 rw [nv_split l n, Nat.add_mul_mod_self_left, Nat.mod_eq_of_lt (nv_take_lt h n)]
theorem nv_drop_succ {l : List Nat} {i : Nat} (h : i < l.length) : nv (l.drop i) = wd l i + 2 ^ 64 * nv (l.drop (i + 1)) := by
 rw [List.drop_eq_getElem_cons h]
 unfold wd; rw [List.getElem?_eq_getElem h]; rfl
theorem wd_eq {l : List Nat} (h : Wf l) (i : Nat) : wd l i = nv l / 2 ^ (64 * i) % 2 ^ 64 := by
 by_cases hi : i < l.length
 · rw [← nv_drop h, nv_drop_succ hi, Nat.add_mul_mod_self_left, Nat.mod_eq_of_lt (wd_lt h i)]
 · have : nv l < 2 ^ (64 * i) := Nat.lt_of_lt_of_le (nv_lt h) (Nat.pow_le_pow_right (by decide) (by omega))
   rw [wd_ge (by omega), Nat.div_eq_of_lt this]
def limbs (n : Nat) : List Nat := if n = 0 then [] else n % 2 ^ 64 :: limbs (n / 2 ^ 64)
termination_by n
decreasing_by exact Nat.div_lt_self (by omega) (by decide)
theorem limbs_zero : limbs 0 = [] := by rw [limbs]; simp
theorem limbs_pos {n : Nat} (h : n ≠ 0) : limbs n = n % 2 ^ 64 :: limbs (n / 2 ^ 64) := by rw [limbs]; simp [h]
theorem nv_limbs (n : Nat) : nv (limbs n) = n := by
 induction n using Nat.strongRecOn with
 | _ n ih =>
   by_cases h : n = 0
   · subst h; rw [limbs_zero]; rfl
   · rw [limbs_pos h]; simp only [nv]
     rw [ih _ (Nat.div_lt_self (by omega) (by decide))]
     exact Nat.mod_add_div n (2 ^ 64)
theorem wf_limbs (n : Nat) : Wf (limbs n) := by
 induction n using Nat.strongRecOn with
 | _ n ih =>
   by_cases h : n = 0
   · subst h; rw [limbs_zero]; exact .nil
   · rw [limbs_pos h]; exact .cons (Nat.mod_lt _ (by decide)) (ih _ (Nat.div_lt_self (by omega) (by decide)))
theorem limbs_eq_nil {n : Nat} : limbs n = [] ↔ n = 0 := by
 constructor
 · intro h; have := nv_limbs n; rw [h] at this; exact this.symm
 · rintro rfl; exact limbs_zero
theorem limbs_last (n : Nat) {x : Nat} (h : (limbs n).getLast? = some x) : x ≠ 0 := by
 induction n using Nat.strongRecOn with
 | _ n ih =>
   by_cases h0 : n = 0
   · subst h0; rw [limbs_zero] at h; cases h
   · rw [limbs_pos h0] at h
     by_cases h1 : n / 2 ^ 64 = 0
     · rw [h1, limbs_zero] at h
       simp at h
       have := Nat.mod_add_div n (2 ^ 64)
       omega
     · rw [limbs_pos h1, List.getLast?_cons_cons, ← limbs_pos h1] at h
       exact ih _ (Nat.div_lt_self (by omega) (by decide)) h
theorem limbs_nv {l : List Nat} (h : Wf l) (hl : ∀ x, l.getLast? = some x → x ≠ 0) : limbs (nv l) = l := by
 induction l with
 | nil => exact limbs_zero
 | cons x l ih =>
   have hx := h x (by simp)
   have hw : Wf l := fun y hy => h y (by simp [hy])
   have hne : nv (x :: l) ≠ 0 := by
    intro h0
    simp only [nv] at h0
    have hl0 : nv l = 0 := by omega
    cases l with
    | nil => exact hl x rfl (by omega)
    | cons y l' =>
      have := ih hw (fun z hz => hl z (by rw [List.getLast?_cons_cons]; exact hz))
      rw [hl0, limbs_zero] at this
      cases this
   rw [limbs_pos hne]
   have e1 : nv (x :: l) % 2 ^ 64 = x := by simp only [nv]; rw [Nat.add_mul_mod_self_left, Nat.mod_eq_of_lt hx]
   have e2 : nv (x :: l) / 2 ^ 64 = nv l := by simp only [nv]; rw [Nat.add_mul_div_left _ _ (by decide), Nat.div_eq_of_lt hx, Nat.zero_add]
   rw [e1, e2]
   cases l with
   | nil => simp only [nv]; rw [limbs_zero]
   | cons y l' => rw [ih hw (fun z hz => hl z (by rw [List.getLast?_cons_cons]; exact hz))]
theorem limbs_take {l : List Nat} (h : Wf l) {n : Nat} (hn : n ≤ l.length) (hz : ∀ j x, n ≤ j → l[j]? = some x → x = 0) (hl : 0 < n → ∃ x, l[n - 1]? = some x ∧ x ≠ 0) : limbs (nv l) = l.take n := by
 have e : nv l = nv (l.take n) := by
  rw [nv_split l n, nv_zeros (l := l.drop n)]
  · omega
  · intro x hx
    obtain ⟨i, hi, rfl⟩ := List.mem_iff_getElem.1 hx
    rw [List.getElem_drop]
    exact hz (n + i) _ (by omega) (List.getElem?_eq_getElem _)
 rw [e]
 refine limbs_nv (h.take n) ?_
 intro x hx
 by_cases h0 : n = 0
 · subst h0; simp at hx
 · obtain ⟨y, hy, hne⟩ := hl (by omega)
   rw [List.getLast?_eq_getElem?, List.length_take, Nat.min_eq_left hn, List.getElem?_take_of_lt (by omega), hy] at hx
   cases hx; exact hne
theorem limbs_len_le {n k : Nat} (h : n < 2 ^ (64 * k)) : (limbs n).length ≤ k := by
 induction k generalizing n with
 | zero => simp at h; subst h; simp [limbs_zero]
 | succ k ih =>
   by_cases h0 : n = 0
   · subst h0; simp [limbs_zero]
   · rw [limbs_pos h0, List.length_cons]
     have : n / 2 ^ 64 < 2 ^ (64 * k) := (Nat.div_lt_iff_lt_mul (by decide)).2 (by rw [pw, Nat.mul_comm] at h; exact h)
     have := ih this
     omega
theorem limbs_nv_len {l : List Nat} (h : Wf l) : (limbs (nv l)).length ≤ l.length := limbs_len_le (nv_lt h)
theorem limbs_ge {n k : Nat} (h : k < (limbs n).length) : 2 ^ (64 * k) ≤ n := by
 refine Classical.byContradiction fun hc => ?_
 have := limbs_len_le (n := n) (k := k) (by omega)
 omega
theorem limbs_one {n : Nat} (h0 : n ≠ 0) (h : n < 2 ^ 64) : limbs n = [n] := by
 rw [limbs_pos h0, Nat.mod_eq_of_lt h, Nat.div_eq_of_lt h, limbs_zero]
theorem limbs_inj {a b : Nat} (h : limbs a = limbs b) : a = b := by rw [← nv_limbs a, h, nv_limbs]
def bl (n : Nat) : Nat := if n = 0 then 0 else n.log2 + 1
theorem bl_zero : bl 0 = 0 := rfl
theorem bl_pos {n : Nat} (h : n ≠ 0) : bl n = n.log2 + 1 := by unfold bl; rw [if_neg h]
theorem bl_lt (n : Nat) : n < 2 ^ bl n := by
 unfold bl
 split
 · rename_i h; subst h; decide
 · exact Nat.lt_log2_self
theorem bl_le {n : Nat} (h : n ≠ 0) : 2 ^ (bl n - 1) ≤ n := by
 rw [bl_pos h]; exact Nat.log2_self_le h
theorem bl_eq {n k : Nat} (h1 : 2 ^ k ≤ n) (h2 : n < 2 ^ (k + 1)) : bl n = k + 1 := by
 have h0 : n ≠ 0 := by have := Nat.two_pow_pos k; omega
 rw [bl_pos h0, (Nat.log2_eq_iff h0).2 ⟨h1, h2⟩]
theorem bl_le_iff {n k : Nat} : bl n ≤ k ↔ n < 2 ^ k := by
 constructor
 · intro h; exact Nat.lt_of_lt_of_le (bl_lt n) (Nat.pow_le_pow_right (by decide) h)
 · intro h
   by_cases h0 : n = 0
   · subst h0; simp [bl_zero]
   · have := bl_le h0
     have h3 : bl n - 1 < k := (Nat.pow_lt_pow_iff_right (by decide)).1 (Nat.lt_of_le_of_lt this h)
     omega
theorem bl_mul_pow {n : Nat} (h : n ≠ 0) (k : Nat) : bl (n * 2 ^ k) = bl n + k := by
 have hp := Nat.two_pow_pos k
 have h1 := bl_le h
 have h2 := bl_lt n
 have h3 : 0 < bl n := by rw [bl_pos h]; omega
 have := bl_eq (n := n * 2 ^ k) (k := bl n - 1 + k) (by rw [Nat.pow_add]; exact Nat.mul_le_mul_right _ h1) (by
  rw [show bl n - 1 + k + 1 = bl n + k by omega, Nat.pow_add]; exact Nat.mul_lt_mul_of_pos_right h2 hp)
 omega
theorem bl_words {l : List Nat} (h : Wf l) {x : Nat} (hx : l.getLast? = some x) (h0 : x ≠ 0) : bl (nv l) = 64 * (l.length - 1) + bl x := by
 obtain ⟨l', rfl⟩ := List.getLast?_eq_some_iff.1 hx
 have hw : Wf l' := fun y hy => h y (by simp [hy])
 have hlt := nv_lt hw
 rw [nv_snoc]
 have h1 := bl_le h0
 have h2 := bl_lt x
 have h3 : 0 < bl x := by rw [bl_pos h0]; omega
 have key := bl_eq (n := nv l' + 2 ^ (64 * l'.length) * x) (k := 64 * l'.length + (bl x - 1)) (by
  rw [Nat.pow_add]
  have := Nat.mul_le_mul_left (2 ^ (64 * l'.length)) h1
  omega) (by
  rw [show 64 * l'.length + (bl x - 1) + 1 = 64 * l'.length + bl x by omega, Nat.pow_add]
  have := Nat.mul_le_mul_left (2 ^ (64 * l'.length)) (show x + 1 ≤ 2 ^ bl x by omega)
  rw [Nat.mul_add] at this
  omega)
 rw [key]
 simp
 omega
def tz (n : Nat) : Nat := if n = 0 then 0 else if n % 2 = 1 then 0 else tz (n / 2) + 1
termination_by n
decreasing_by omega
theorem tz_zero : tz 0 = 0 := by rw [tz]; simp
theorem tz_odd {n : Nat} (h : n % 2 = 1) : tz n = 0 := by
 rw [tz, if_pos h]
 split <;> rfl
theorem tz_even {n : Nat} (h0 : n ≠ 0) (h : n % 2 = 0) : tz n = tz (n / 2) + 1 := by rw [tz]; simp [h0, h]
theorem tz_spec (n : Nat) (h0 : n ≠ 0) : n = n / 2 ^ tz n * 2 ^ tz n ∧ n / 2 ^ tz n % 2 = 1 := by
 induction n using Nat.strongRecOn with
 | _ n ih =>
   by_cases h : n % 2 = 1
   · rw [tz_odd h]; simp [h]
   · have h' : n % 2 = 0 := by omega
     obtain ⟨h1, h2⟩ := ih (n / 2) (by omega) (by omega)
     rw [tz_even h0 h', Nat.pow_succ, Nat.mul_comm (2 ^ tz (n / 2)) 2, ← Nat.div_div_eq_div_mul]
     refine ⟨?_, h2⟩
     rw [← Nat.mul_assoc, Nat.mul_comm (n / 2 / 2 ^ tz (n / 2)) 2, Nat.mul_assoc, ← h1]
     omega
theorem tz_eq {n k m : Nat} (h : n = m * 2 ^ k) (hm : m % 2 = 1) : tz n = k ∧ n / 2 ^ tz n = m := by
 induction k generalizing n with
 | zero =>
   simp at h
   subst h
   rw [tz_odd hm]; simp
 | succ k ih =>
   have hp := Nat.two_pow_pos k
   have h0 : n ≠ 0 := by rw [h]; exact Nat.mul_ne_zero (by omega) (by have := Nat.two_pow_pos (k + 1); omega)
   have h2 : n = 2 * (m * 2 ^ k) := by rw [h, Nat.pow_succ, Nat.mul_comm 2, Nat.mul_assoc]
   have h3 : n / 2 = m * 2 ^ k := by omega
   obtain ⟨e1, e2⟩ := ih h3
   rw [tz_even h0 (by omega), e1]
   refine ⟨rfl, ?_⟩
   rw [h]
   exact Nat.mul_div_cancel _ (Nat.two_pow_pos _)
theorem tz_mul_pow {n : Nat} (h : n ≠ 0) (k : Nat) : tz (n * 2 ^ k) = tz n + k ∧ n * 2 ^ k / 2 ^ tz (n * 2 ^ k) = n / 2 ^ tz n := by
 obtain ⟨h1, h2⟩ := tz_spec n h
 refine tz_eq ?_ h2
 rw [Nat.pow_add, ← Nat.mul_assoc, ← h1]
theorem tz_of_bits {n k : Nat} (h1 : n / 2 ^ k % 2 = 1) (h2 : ∀ j, j < k → n / 2 ^ j % 2 = 0) : tz n = k := by
 have hd : n % 2 ^ k = 0 := by
  clear h1
  induction k with
  | zero => simp [Nat.mod_one]
  | succ k ih =>
    have h3 := ih (fun j hj => h2 j (by omega))
    have h4 := h2 k (by omega)
    rw [Nat.mod_pow_succ, h3, h4]
    simp
 refine (tz_eq (m := n / 2 ^ k) ?_ h1).1
 have := Nat.div_add_mod n (2 ^ k)
 rw [Nat.mul_comm] at this
 omega
theorem tz_lt_bl {n : Nat} (h : n ≠ 0) : tz n < bl n := by
 obtain ⟨h1, h2⟩ := tz_spec n h
 refine Classical.byContradiction fun hc => ?_
 have h3 : n < 2 ^ tz n := Nat.lt_of_lt_of_le (bl_lt n) (Nat.pow_le_pow_right (by decide) (by omega))
 rw [Nat.div_eq_of_lt h3] at h2
 omega
theorem bit_wd {l : List Nat} (h : Wf l) (i : Nat) : wd l (i / 64) / 2 ^ (i % 64) % 2 = nv l / 2 ^ i % 2 := by
 rw [wd_eq h]
 have e : i = 64 * (i / 64) + i % 64 := by omega
 have e2 : nv l / 2 ^ i = nv l / 2 ^ (64 * (i / 64)) / 2 ^ (i % 64) := by
  rw [Nat.div_div_eq_div_mul, ← Nat.pow_add, ← e]
 rw [e2]
 generalize nv l / 2 ^ (64 * (i / 64)) = m
 have hr : i % 64 < 64 := Nat.mod_lt _ (by decide)
 generalize i % 64 = r at hr
 -- the word's own bit
 have e3 : (2 : Nat) ^ 64 = 2 ^ r * 2 ^ (64 - r) := by rw [← Nat.pow_add]; congr 1; omega
 rw [e3, Nat.mod_mul_right_div_self]
 obtain ⟨q, hq⟩ : ∃ q, 64 - r = q + 1 := ⟨63 - r, by omega⟩
 rw [hq, Nat.pow_succ, Nat.mul_comm (2 ^ q) 2, Nat.mod_mul_right_mod]
theorem bl_half {n : Nat} (h : 0 < n) : bl n = bl (n / 2) + 1 := by
 by_cases h1 : n = 1
 · subst h1; decide
 · have h2 : n / 2 ≠ 0 := by omega
   have e := bl_le h2
   have e2 := bl_lt (n / 2)
   have e3 : 0 < bl (n / 2) := by rw [bl_pos h2]; omega
   have := bl_eq (n := n) (k := bl (n / 2)) (by
    have h3 : (2 : Nat) ^ bl (n / 2) = 2 * 2 ^ (bl (n / 2) - 1) := by
     rw [← Nat.pow_succ', show (bl (n / 2) - 1).succ = bl (n / 2) by omega]
    omega) (by rw [Nat.pow_succ]; omega)
   exact this
theorem nv_drop_step (l : List Nat) (i : Nat) : nv (l.drop i) = wd l i + 2 ^ 64 * nv (l.drop (i + 1)) := by
 by_cases h : i < l.length
 · exact nv_drop_succ h
 · rw [wd_ge (by omega), List.drop_eq_nil_of_le (by omega), List.drop_eq_nil_of_le (by omega)]; rfl
def cmpN (a b : Nat) : Int := if a < b then -1 else if b < a then 1 else 0
theorem cmp_split {a b : List Nat} (ha : Wf a) {i : Nat} (he : nv (a.drop (i + 1)) = nv (b.drop (i + 1))) (h : wd a i < wd b i) : nv a < nv b := by
 have h1 := nv_take_lt ha i
 have h2 := nv_drop_step a i
 have h3 := nv_drop_step b i
 rw [nv_split a i, nv_split b i]
 have h4 : nv (a.drop i) + 1 ≤ nv (b.drop i) := by omega
 have h5 := Nat.mul_le_mul_left (2 ^ (64 * i)) h4
 rw [Nat.mul_add] at h5
 omega
theorem cmp_lt {a b : List Nat} (ha : Wf a) {i : Nat} (he : nv (a.drop (i + 1)) = nv (b.drop (i + 1))) (h : wd a i < wd b i) : cmpN (nv a) (nv b) = -1 := by
 unfold cmpN; rw [if_pos (cmp_split ha he h)]
theorem cmp_gt {a b : List Nat} (hb : Wf b) {i : Nat} (he : nv (a.drop (i + 1)) = nv (b.drop (i + 1))) (h : wd b i < wd a i) : cmpN (nv a) (nv b) = 1 := by
 have := cmp_split hb he.symm h
 unfold cmpN; rw [if_neg (by omega), if_pos this]
theorem add_step {A acc X Y i s c c' x y : Nat} (hacc : acc + 2 ^ (64 * i) * c = X + Y) (hs : s + 2 ^ 64 * c' = x + y + c) (hA : A = acc + 2 ^ (64 * i) * s) :
 A + 2 ^ (64 * (i + 1)) * c' = X + 2 ^ (64 * i) * x + (Y + 2 ^ (64 * i) * y) := by
 rw [pw, hA]
 generalize 2 ^ (64 * i) = p at *
 have : p * (s + 2 ^ 64 * c') = p * (x + y + c) := by rw [hs]
 grind
theorem sub_step {A acc X Y i s c c' x y : Nat} (hacc : acc + Y = X + 2 ^ (64 * i) * c) (hs : s + y + c = x + 2 ^ 64 * c') (hA : A = acc + 2 ^ (64 * i) * s) :
 A + (Y + 2 ^ (64 * i) * y) = X + 2 ^ (64 * i) * x + 2 ^ (64 * (i + 1)) * c' := by
 rw [pw, hA]
 generalize 2 ^ (64 * i) = p at *
 have : p * (s + y + c) = p * (x + 2 ^ 64 * c') := by rw [hs]
 grind
theorem nv_set {l : List Nat} {i : Nat} (h : i < l.length) (x : Nat) : nv (l.set i x) + 2 ^ (64 * i) * wd l i = nv l + 2 ^ (64 * i) * x := by
 induction l generalizing i with
 | nil => simp at h
 | cons y l ih =>
   cases i with
   | zero => simp only [List.set_cons_zero, nv, wd]; simp; omega
   | succ i =>
     have := ih (i := i) (by simpa using h)
     have e : wd (y :: l) (i + 1) = wd l i := by simp [wd]
     rw [List.set_cons_succ, e, pw]
     simp only [nv]
     generalize 2 ^ (64 * i) = p at *
     grind
theorem wd_set_ne {l : List Nat} {i j : Nat} (h : i ≠ j) (x : Nat) : wd (l.set i x) j = wd l j := by
 unfold wd; rw [List.getElem?_set_ne h]
theorem wd_small {l : List Nat} (h : Wf l) {k : Nat} (hl : nv l < 2 ^ (64 * k)) {j : Nat} (hj : k ≤ j) : wd l j = 0 := by
 rw [wd_eq h, Nat.div_eq_of_lt (Nat.lt_of_lt_of_le hl (Nat.pow_le_pow_right (by decide) (by omega)))]
theorem mul_step {o o' S M x y cy cy' w0 t : Nat} {i j : Nat} (h : o + 2 ^ (64 * (i + j)) * cy = S + 2 ^ (64 * i) * (x * M)) (hs : o' + 2 ^ (64 * (i + j)) * w0 = o + 2 ^ (64 * (i + j)) * t) (ht : t + 2 ^ 64 * cy' = w0 + x * y + cy) :
 o' + 2 ^ (64 * (i + (j + 1))) * cy' = S + 2 ^ (64 * i) * (x * (M + 2 ^ (64 * j) * y)) := by
 rw [show 64 * (i + (j + 1)) = 64 + (64 * i + 64 * j) by omega, Nat.pow_add, Nat.pow_add]
 rw [show 64 * (i + j) = 64 * i + 64 * j by omega, Nat.pow_add] at h hs
 generalize 2 ^ (64 * i) = p at *
 generalize 2 ^ (64 * j) = q at *
 have h2 : p * q * (t + 2 ^ 64 * cy') = p * q * (w0 + x * y + cy) := by rw [ht]
 grind
theorem mul_row {o o' S A B x cy : Nat} {i n : Nat} (h : o + 2 ^ (64 * (i + n)) * cy = S + 2 ^ (64 * i) * (x * B)) (hS : S = A * B) (ho : o' = o + 2 ^ (64 * (i + n)) * cy) : o' = (A + 2 ^ (64 * i) * x) * B := by
 rw [ho, h, hS]; grind
theorem shl_word {x k cy : Nat} (hx : x < 2 ^ 64) (hk : k ≤ 63) (hcy : cy < 2 ^ k) :
 (x * 2 ^ k % 2 ^ 64) ||| cy = x * 2 ^ k % 2 ^ 64 + cy ∧ x * 2 ^ k % 2 ^ 64 + cy < 2 ^ 64 ∧ x * 2 ^ k / 2 ^ 64 = x / 2 ^ (64 - k) ∧ x / 2 ^ (64 - k) < 2 ^ k := by
 have e : (2 : Nat) ^ 64 = 2 ^ (64 - k) * 2 ^ k := by rw [← Nat.pow_add]; congr 1; omega
 have e1 : x * 2 ^ k % 2 ^ 64 = (x % 2 ^ (64 - k)) * 2 ^ k := by rw [e, Nat.mul_mod_mul_right]
 have hp := Nat.two_pow_pos k
 have h1 : x % 2 ^ (64 - k) < 2 ^ (64 - k) := Nat.mod_lt _ (Nat.two_pow_pos _)
 refine ⟨?_, ?_, ?_, ?_⟩
 · rw [e1, ← Nat.shiftLeft_eq, ← Nat.shiftLeft_add_eq_or_of_lt hcy]
 · rw [e1, e]
   have := Nat.mul_le_mul_right (2 ^ k) (show x % 2 ^ (64 - k) + 1 ≤ 2 ^ (64 - k) from h1)
   rw [Nat.add_mul] at this
   omega
 · rw [e, Nat.mul_div_mul_right _ _ hp]
 · rw [Nat.div_lt_iff_lt_mul (Nat.two_pow_pos _), Nat.mul_comm, ← e]; exact hx
theorem shl_step {A acc cy cy' t x S q i k : Nat} (h : acc + 2 ^ (64 * (q + i)) * cy = 2 ^ (64 * q) * (2 ^ k * S)) (ht : t + 2 ^ 64 * cy' = x * 2 ^ k + cy) (hA : A = acc + 2 ^ (64 * (q + i)) * t) :
 A + 2 ^ (64 * (q + (i + 1))) * cy' = 2 ^ (64 * q) * (2 ^ k * (S + 2 ^ (64 * i) * x)) := by
 rw [hA, show 64 * (q + (i + 1)) = 64 + (64 * q + 64 * i) by omega, Nat.pow_add, Nat.pow_add]
 rw [show 64 * (q + i) = 64 * q + 64 * i by omega, Nat.pow_add] at h ⊢
 generalize 2 ^ (64 * q) = Q at *
 generalize 2 ^ (64 * i) = I at *
 generalize 2 ^ k = K at *
 have h2 : Q * I * (t + 2 ^ 64 * cy') = Q * I * (x * K + cy) := by rw [ht]
 grind
theorem up_word (x k : Nat) (hk : k ≤ 64) : x * 2 ^ (64 - k) % 2 ^ 64 = (x % 2 ^ k) * 2 ^ (64 - k) := by
 have e : (2 : Nat) ^ 64 = 2 ^ k * 2 ^ (64 - k) := by rw [← Nat.pow_add]; congr 1; omega
 rw [e, Nat.mul_mod_mul_right]
theorem shr_word {x y k : Nat} (hx : x < 2 ^ 64) (hk : k ≤ 64) :
 (x / 2 ^ k) ||| (y * 2 ^ (64 - k) % 2 ^ 64) = (x + 2 ^ 64 * y) / 2 ^ k % 2 ^ 64 := by
 have e : (2 : Nat) ^ 64 = 2 ^ k * 2 ^ (64 - k) := by rw [← Nat.pow_add]; congr 1; omega
 have hp := Nat.two_pow_pos k
 have hq := Nat.two_pow_pos (64 - k)
 have hx1 : x / 2 ^ k < 2 ^ (64 - k) := by rw [Nat.div_lt_iff_lt_mul hp, Nat.mul_comm, ← e]; exact hx
 rw [up_word y k hk, Nat.or_comm, ← Nat.shiftLeft_eq, ← Nat.shiftLeft_add_eq_or_of_lt hx1, Nat.shiftLeft_eq]
 have e2 : (x + 2 ^ 64 * y) / 2 ^ k = x / 2 ^ k + 2 ^ (64 - k) * y := by
  rw [e, Nat.mul_assoc, Nat.add_mul_div_left _ _ hp]
 rw [e2, show (2 : Nat) ^ 64 = 2 ^ (64 - k) * 2 ^ k by rw [e, Nat.mul_comm], Nat.mod_mul, Nat.add_mul_mod_self_left, Nat.mod_eq_of_lt hx1, Nat.add_mul_div_left _ _ hq, Nat.div_eq_of_lt hx1, Nat.zero_add]
 rw [Nat.mul_comm (y % 2 ^ k)]; omega
theorem nv_down {l : List Nat} (h : Wf l) (q j k : Nat) : (wd l (q + j) + 2 ^ 64 * wd l (q + j + 1)) / 2 ^ k % 2 ^ 64 = nv l / 2 ^ (64 * q + k) / 2 ^ (64 * j) % 2 ^ 64 ∨ 64 < k := by
 by_cases hk : 64 < k
 · exact .inr hk
 refine .inl ?_
 have e : nv l / 2 ^ (64 * q + k) / 2 ^ (64 * j) = nv (l.drop (q + j)) / 2 ^ k := by
  rw [nv_drop h, Nat.div_div_eq_div_mul, Nat.div_div_eq_div_mul, ← Nat.pow_add, ← Nat.pow_add]
  congr 2; omega
 rw [e, nv_drop_step l (q + j), nv_drop_step l (q + j + 1)]
 generalize wd l (q + j) = x
 generalize wd l (q + j + 1) = y
 generalize nv (l.drop (q + j + 1 + 1)) = z
 have e2 : (2 : Nat) ^ 64 = 2 ^ k * 2 ^ (64 - k) := by rw [← Nat.pow_add]; congr 1; omega
 have e3 : x + 2 ^ 64 * (y + 2 ^ 64 * z) = (x + 2 ^ 64 * y) + 2 ^ k * (2 ^ (64 - k) * 2 ^ 64 * z) := by
  rw [Nat.mul_add, ← Nat.mul_assoc (2 ^ k), ← Nat.mul_assoc (2 ^ k), ← e2, ← Nat.mul_assoc]; omega
 rw [e3, Nat.add_mul_div_left _ _ (Nat.two_pow_pos k), show 2 ^ (64 - k) * 2 ^ 64 * z = 2 ^ 64 * (2 ^ (64 - k) * z) by rw [Nat.mul_comm (2 ^ (64 - k)), Nat.mul_assoc], Nat.add_mul_mod_self_left]
theorem mod_words (V j : Nat) : V % 2 ^ (64 * (j + 1)) = V % 2 ^ (64 * j) + 2 ^ (64 * j) * (V / 2 ^ (64 * j) % 2 ^ 64) := by
 rw [pw, Nat.mul_comm, Nat.mod_mul]
theorem mod_down {l : List Nat} (h : Wf l) (q k : Nat) (hk : k ≤ 64) : nv l % 2 ^ (64 * q + k) = nv (l.take q) + 2 ^ (64 * q) * (wd l q % 2 ^ k) := by
 rw [Nat.pow_add, Nat.mod_mul, ← nv_take h, ← nv_drop h, nv_drop_step l q]
 have e2 : (2 : Nat) ^ 64 = 2 ^ k * 2 ^ (64 - k) := by rw [← Nat.pow_add]; congr 1; omega
 rw [e2, Nat.mul_assoc, Nat.add_mul_mod_self_left]
end Limb

namespace Go.Proofs.YtkdicconchobfaaGreatDoor
open Go.RowKit Go.Proofs.YtkdicconchobfaaGreatDoorW.PrintWords Limb
set_option linter.unusedVariables false
set_option linter.unusedSimpArgs false
def kU : Kd Nat := Kd.scalar (fun n => .int .u64 (n : Int)) (fun _ => rfl)
theorem info_word : (Tryz.prog.info? 64).map (fun i => (i.zero, i.size, i.bytes)) = some (some (.int .u64 0), 1, 8) := by kernel_rfl
section
variable {P : Program} {ops : Array Oper} {rest : List Oper} {o : Oper} {a : Act} {Q : Exit → Act → World → Prop} {W : World}
theorem gate_builtin {b : Builtin} {xs : Array Operand} {ts : Array TypeId} (_ho : o.op = .call { callee := .builtin b, args := xs, argTypes := ts }) (h : wpList P ops Q (o :: rest) a W) : wpList P ops Q (o :: rest) a W := h
end
theorem at_word {w : World} {A : Option Addr} {n : Nat} {xs : List Nat} (h : kU.C w A n xs) (hn : xs.length = n) (i : Nat) (hi : i < n) : ∃ ad x, A = some ad ∧ xs[i]? = some x ∧ w.cell? (ad.add i) = some (.int .u64 (x : Int)) := by
 obtain ⟨ad, c, e, _, hK, hc0⟩ := Kd.C_get h 0 (i : Int) (by omega) (by omega)
 refine ⟨ad, xs.getD i 0, e, by rw [List.getD_eq_getElem?_getD, List.getElem?_eq_getElem (by omega)]; rfl, ?_⟩
 have hc : c = [.int .u64 ((xs.getD ((i : Int)).toNat 0 : Nat) : Int)] := hK
 have := hc0 0 (.int .u64 ((xs.getD ((i : Int)).toNat 0 : Nat) : Int)) (by rw [hc]; rfl)
 simpa [kU, Kd.scalar] using this
theorem C_take {w : World} {A : Option Addr} {xs : List Nat} (h : kU.C w A xs.length xs) (k : Nat) (hk : k ≤ xs.length) : kU.C w A k (xs.take k) := by
 obtain ⟨_, h2, h3⟩ := h
 refine ⟨by rw [List.length_take]; omega, by omega, fun hp => ?_⟩
 obtain ⟨ad, e, hc⟩ := h3 (by omega)
 refine ⟨ad, e, fun j p hj => hc j p ?_⟩
 have hjk : j < k := by have := (List.getElem?_eq_some_iff.1 hj).1; rw [List.length_take] at this; omega
 rwa [List.getElem?_take_of_lt hjk] at hj
theorem run_to (n : Nat) (A : Option Addr) (c k : Nat) (hn : n ≤ c) (hk : k ≤ n) : ∀ W : World, (Instr.slice 23 (.slice A n c) none (some (.int .i64 (k : Int))) none).run Tryz.prog W = .ok (.slice A k c) W := by
 obtain ⟨i, hi, he⟩ := Option.map_eq_some_iff.1 info_word
 simp only [Prod.mk.injEq] at he
 intro W
 have h := (print_take_of (P := Tryz.prog) (fun x : Nat => Value.int .u64 (x : Int)) 0 23 64 .i64 Tryz.underlying23 hi he.2.1 A c (List.replicate n 0) (k : Int) (by omega) (by simp; omega) (by simp; omega)).1 W
 simpa [Nat.min_eq_left hk] using h
theorem put_word {e base n c k : Nat} {ok : Nat → Prop} {W : World} {g : Nat} {ys : List Nat} (h : kU.R e W base ok (.slice (some ⟨g, 0, none⟩) n c) ys) (hk : k < n) :
 W.cell? ⟨g, k, none⟩ = some (.int .u64 ((wd ys k : Nat) : Int)) ∧ W.frozen? ⟨g, k, none⟩ = false ∧ ∀ u : Nat, kU.R e (W.setCell ⟨g, k, none⟩ (.int .u64 (u : Int))) base ok (.slice (some ⟨g, 0, none⟩) n c) (ys.set k u) := by
 obtain ⟨hn, _, _⟩ := Kd.R_reads' h
 obtain ⟨h1, h2⟩ := Kd.R_celln 0 h (k : Int) (by omega) (by omega)
 refine ⟨?_, h2, fun u => Kd.R_putn h (k : Int) u⟩
 have e1 : rdOf 0 ys (k : Int) = wd ys k := by unfold wd; rw [List.getElem?_eq_getElem (by omega)]; simp [rdOf, List.getD_eq_getElem?_getD, List.getElem?_eq_getElem (show k < ys.length by omega)]
 rw [e1] at h1
 exact h1
theorem run_store_word {P : Program} {W : World} {a : Addr} {old : Value} {u : Int} (hc : W.cell? a = some old) (hf : W.frozen? a = false) : (store a (.int .u64 u)).run P W = .ok () (W.setCell a (.int .u64 u)) := by
 simp [store, Sem.run, hc, hf]
theorem quiet_below {w w' : World} (h : ∃ n, w' = w.drewN n) : Below w.heap.size w w' := by
 obtain ⟨n, rfl⟩ := h
 exact pw_below_drewN (Below.refl _ _) n
theorem norm_all (l : List Nat) (A : Option Addr) (c : Nat) (w : World) (hr : kU.C w A l.length l) (hc : l.length ≤ c) (hw : Wf l) (hl0 : (limbs (nv l)).length ≤ 4294967296) :
 Calls Tryz.prog 89 #[.slice A l.length c] w fun e w' => ∃ v, e = .returned v ∧ kU.R 64 w' w.heap.size (fun _ => True) v (limbs (nv l)) ∧ Below w.heap.size w w' := by
 have hl : l.length ≤ 9223372036854775807 := Kd.C_max hr
 have HR := Aside0.mk hr
 have HW := Aside0.mk hw
 clear hr hw
 go_enter Tryz.func89, Tryz.ntmps89
 go_wp2
 go_loopw [3] (fun i wr => ∃ k : Nat, i = .int .i64 k ∧ k ≤ l.length ∧ Aside0 (∃ n, wr = w.drewN n) ∧ Aside0 (∀ j x, k ≤ j → l[j]? = some x → x = 0)) (fun i _ => (intOf i).toNat)
 case atStart => exact ⟨l.length, rfl, Nat.le_refl _, ⟨⟨0, rfl⟩⟩, ⟨fun j x hj hx => by rw [List.getElem?_eq_none hj] at hx; cases hx⟩⟩
 case round =>
  obtain ⟨k, rfl, hk, HWR, HG⟩ := hrel
  obtain ⟨nw, rfl⟩ := HWR.out
  clear HWR
  have hkc : k ≤ c := by omega
  have HBB := Aside0.mk (pw_below_drewN (Below.refl w.heap.size w) nw)
  by_cases hk0 : k = 0
  · have HK := Aside0.mk (limbs_take HW.out hk HG.out (fun h => by omega))
    have hkn : k ≤ 0 := by omega
    have hkd2 : decide (0 < k) = false := decide_eq_false (by omega)
    have hkd : decide (0 < (k : Int)) = false := decide_eq_false (by omega)
    have hsl := run_to l.length A c k hc hk
    have hkl : k ≤ 4294967296 := by omega
    clear hk0
    go_wp2_with ((with_reducible refine gate_builtin (b := .append) (xs := #[.tmp 19, .tmp 22]) rfl ?_); at_builtin; go_must (refine Kd.R_append_row (fun n : Nat => Value.int .u64 (n : Int)) 0 (h1 := fun _ => rfl) (w0 := w) w.heap.size rfl (.tmp 19) (.tmp 22) 23 64 (.int .u64 0) 8 rfl Tryz.underlying23 info_word rfl (by decide) (.slice none 0 0) [] (l.take k) A k c (fun _ => True) rfl rfl (fun _ _ => trivial) (Kd.R_nil _ _ _ _ _) ?hC (HBB.out) HBB.out.size ?hl ?_; (case hC => exact C_take (Kd.C_below HR.out HBB.out) k hk); (case hl => simp; omega); intro v1 w1 ho hb _ _; rw [List.nil_append, ← HK.out] at ho; have HO' := Aside0.mk ho; have HB' := Aside0.mk hb; clear ho hb))
    go_ret
    exact ⟨_, rfl, HO'.out, HB'.out⟩
  · have hkd : decide (0 < (k : Int)) = true := decide_eq_true (by omega)
    have hkp : 0 < k := by omega
    obtain ⟨ad, x, rfl, hx0, hcell⟩ := at_word HR.out rfl (k - 1) (by omega)
    have hx := Aside0.mk hx0
    have e1 : IntKind.i64.wrap ((k : Int) - 1) = (k : Int) - 1 := by unfold IntKind.wrap; simp [IntKind.bits, IntKind.signed]; omega
    have e2 : ((k : Int) - 1).toNat = k - 1 := by omega
    have e3 : 0 ≤ (k : Int) - 1 := by omega
    have e4 : (k : Int) - 1 < l.length := by omega
    clear hx0 hk0
    by_cases hz : x = 0
    · subst hz
      go_wp2
      go_roundw
      case rel =>
       refine ⟨k - 1, by rw [show ((k - 1 : Nat) : Int) = (k : Int) - 1 by omega], by omega, ⟨⟨nw, rfl⟩⟩, ⟨fun j y hj hy => ?_⟩⟩
       by_cases hjk : j = k - 1
       · subst hjk
         have := hx.out
         rw [hy] at this
         exact Option.some.inj this
       · exact HG.out j y (by omega) hy
      case measure => simp [intOf]; omega
    · have HK := Aside0.mk (limbs_take HW.out hk HG.out (fun _ => ⟨x, hx.out, hz⟩))
      have hxz : ((x : Int) == 0) = false := by simp; exact hz
      have hsl := run_to l.length (some ad) c k hc hk
      have hkl : k ≤ 4294967296 := by rw [HK.out, List.length_take] at hl0; omega
      clear hz
      go_wp2_with ((with_reducible refine gate_builtin (b := .append) (xs := #[.tmp 19, .tmp 22]) rfl ?_); at_builtin; go_must (refine Kd.R_append_row (fun n : Nat => Value.int .u64 (n : Int)) 0 (h1 := fun _ => rfl) (w0 := w) w.heap.size rfl (.tmp 19) (.tmp 22) 23 64 (.int .u64 0) 8 rfl Tryz.underlying23 info_word rfl (by decide) (.slice none 0 0) [] (l.take k) (some ad) k c (fun _ => True) rfl rfl (fun _ _ => trivial) (Kd.R_nil _ _ _ _ _) ?hC (HBB.out) HBB.out.size ?hl ?_; (case hC => exact C_take (Kd.C_below HR.out HBB.out) k hk); (case hl => simp; omega); intro v1 w1 ho hb _ _; rw [List.nil_append, ← HK.out] at ho; have HO' := Aside0.mk ho; have HB' := Aside0.mk hb; clear ho hb))
      go_ret
      exact ⟨_, rfl, HO'.out, HB'.out⟩
theorem norm_any (l : List Nat) (A : Option Addr) (c : Nat) (w : World) (hr : kU.C w A l.length l) (hc : l.length ≤ c) (hw : Wf l) (hl : l.length ≤ 4294967296) :
 Calls Tryz.prog 89 #[.slice A l.length c] w fun e w' => ∃ v, e = .returned v ∧ kU.R 64 w' w.heap.size (fun _ => True) v (limbs (nv l)) ∧ Below w.heap.size w w' :=
 norm_all l A c w hr hc hw (Nat.le_trans (limbs_nv_len hw) hl)
/-- A hidden fact, by a short name. -/
theorem yk {p : Prop} (h : p) : Aside0 p := ⟨h⟩
theorem ya {p q : Prop} (h : p) (k : q) : p ∧ q := ⟨h, k⟩
theorem yr {b : Nat} {w : World} : Below b w w := Below.refl _ _
theorem yb {w w1 : World} {k : Nat} {o : Obj} (h : w.heap[k]? = some o) (hb : Below w.heap.size w w1) : w1.heap[k]? = some o := blk_below h hb
abbrev BL (w w1 : World) : Prop := Below w.heap.size w w1
theorem yw (w : World) : Below w.heap.size w w := Below.refl _ _
theorem wrap_i64 {x : Int} (h0 : -9223372036854775808 ≤ x) (h1 : x ≤ 9223372036854775807) : IntKind.i64.wrap x = x := by
 unfold IntKind.wrap; simp [IntKind.bits, IntKind.signed]; omega
theorem wrap_u64 {x : Int} (h0 : 0 ≤ x) (h1 : x ≤ 18446744073709551615) : IntKind.u64.wrap x = x := by
 unfold IntKind.wrap; simp [IntKind.bits, IntKind.signed]; omega
theorem ret_int {k : IntKind} {a b : Int} (h : a = b) : Ending.returned (.int k a) = .returned (.int k b) := by rw [h]
theorem ret_bool {a b : Bool} (h : a = b) : Ending.returned (.bool a) = .returned (.bool b) := by rw [h]
theorem word_any (l : List Nat) (A : Option Addr) (c i : Nat) (j : Int) (hj : j = (i : Int)) (w : World) (hr : kU.C w A l.length l) (hc : l.length ≤ c) (hm : l.length ≤ 9223372036854775807) :
 Calls Tryz.prog 94 #[.slice A l.length c, .int .i64 j] w fun e w' => e = .returned (.int .u64 (wd l i : Int)) ∧ ∃ n, w' = w.drewN n := by
 subst hj
 have HR := yk hr
 clear hr
 by_cases hi : i < l.length
 · obtain ⟨ad, x, rfl, hx0, hcell⟩ := at_word HR.out rfl i hi
   have HX := yk (wd_of hx0)
   clear hx0
   go_enter Tryz.func94, Tryz.ntmps94
   go_wp2
   go_ret
   exact ⟨ret_int (by rw [HX.out]), ⟨0, rfl⟩⟩
 · have HX := yk (wd_ge (l := l) (i := i) (by omega))
   go_enter Tryz.func94, Tryz.ntmps94
   go_wp2
   go_ret
   exact ⟨ret_int (by rw [HX.out]; rfl), ⟨0, rfl⟩⟩
theorem word_is (l : List Nat) (A : Option Addr) (c i x : Nat) (j : Int) (hj : j = (i : Int)) (hx : wd l i = x) (w : World) (hr : kU.C w A l.length l) (hc : l.length ≤ c) (hm : l.length ≤ 9223372036854775807) :
 Calls Tryz.prog 94 #[.slice A l.length c, .int .i64 j] w fun e w' => e = .returned (.int .u64 (x : Int)) ∧ ∃ n, w' = w.drewN n := by
 rw [← hx]
 exact word_any l A c i j hj w hr hc hm
theorem bit_any (l : List Nat) (A : Option Addr) (c i : Nat) (w : World) (hr : kU.C w A l.length l) (hc : l.length ≤ c) (hw : Wf l) (hm : l.length ≤ 9223372036854775807) (hi : i ≤ 9223372036854775807) :
 Calls Tryz.prog 129 #[.slice A l.length c, .int .i64 (i : Int)] w fun e w' => e = .returned (.bool (nv l / 2 ^ i % 2 == 1)) ∧ ∃ n, w' = w.drewN n := by
 have HR := yk hr
 have HB := yk (bit_wd hw i)
 clear hr hw
 have hdv : (i : Int).tdiv 64 = ((i / 64 : Nat) : Int) := by rw [Int.tdiv_eq_ediv_of_nonneg (by omega)]; omega
 have hmd : (i : Int).tmod 64 = ((i % 64 : Nat) : Int) := by rw [Int.tmod_eq_emod_of_nonneg (by omega)]; omega
 go_enter Tryz.func129, Tryz.ntmps129
 go_wp2_with (go_at_call 94; go_must (refine (word_any l A c (i / 64) _ ?hj w HR.out hc hm).mono ?_; (case hj => omega); rintro e w' ⟨rfl, n, rfl⟩))
 go_ret
 refine ⟨ret_bool ?_, ⟨n, rfl⟩⟩
 have h := HB.out
 have e1 : ((wd l (i / 64) : Int) / 2 ^ (i % 64)).tmod 2 = ((wd l (i / 64) / 2 ^ (i % 64) % 2 : Nat) : Int) := by
  rw [show ((wd l (i / 64) : Int) / 2 ^ (i % 64)) = ((wd l (i / 64) / 2 ^ (i % 64) : Nat) : Int) by simp]; rfl
 show (((wd l (i / 64) : Int) / 2 ^ (i % 64)).tmod 2 == 1) = (nv l / 2 ^ i % 2 == 1)
 rw [e1, h]
 rw [Bool.eq_iff_iff, beq_iff_eq, beq_iff_eq]
 exact ⟨fun h => Int.ofNat.inj h, fun h => congrArg Int.ofNat h⟩
theorem len_all (l : List Nat) (A : Option Addr) (c : Nat) (w : World) (hr : kU.C w A l.length l) (hc : l.length ≤ c) (hw : Wf l) (hl : (limbs (nv l)).length ≤ 4294967296) :
 Calls Tryz.prog 90 #[.slice A l.length c] w fun e w' => e = .returned (.int .i64 (bl (nv l) : Int)) ∧ BL w w' := by
 have HR := yk hr
 have HC := yk hc
 have HW := yk hw
 have HL := yk hl
 clear hr hw hc hl
 by_cases h0 : nv l = 0
 · have HZ := yk (show limbs (nv l) = [] by rw [h0]; exact limbs_zero)
   have HB0 := yk (show bl (nv l) = 0 by rw [h0]; rfl)
   clear h0
   go_enter Tryz.func90, Tryz.ntmps90
   go_wp2_with (go_at_call 89; go_must (refine (norm_all l A c w HR.out HC.out HW.out HL.out).mono ?_; rintro e w1 ⟨v, rfl, ho, hb⟩; obtain ⟨A1, c1, rfl, hc1, hC1⟩ := Kd.R_reads ho; rw [HZ.out] at hC1 hc1 ⊢; have HC1 := yk hC1; have HBB := yk hb; clear ho hb hc1 hC1))
   go_ret
   exact ⟨ret_int (by rw [HB0.out]; rfl), HBB.out⟩
 · have hp : 0 < (limbs (nv l)).length := List.length_pos_iff.2 (fun h => h0 (limbs_eq_nil.1 h))
   obtain ⟨n, hn⟩ : ∃ n, n = (limbs (nv l)).length := ⟨_, rfl⟩
   have HN := yk hn
   rw [← hn] at hp
   have hn0 : n ≠ 0 := by omega
   have hnl : n ≤ 4294967296 := by rw [HN.out]; exact HL.out
   obtain ⟨T, hT⟩ : ∃ T, T = bl (nv l) := ⟨_, rfl⟩
   have HT := yk hT
   rw [← HT.out]
   clear hn h0 hT
   go_enter Tryz.func90, Tryz.ntmps90
   go_wp2_with (go_at_call 89; go_must (refine (norm_all l A c w HR.out HC.out HW.out HL.out).mono ?_; rintro e w1 ⟨v, rfl, ho, hb⟩; obtain ⟨A1, c1, rfl, hc1, hC1⟩ := Kd.R_reads ho; rw [← HN.out] at hC1 hc1 ⊢; obtain ⟨ad, x, rfl, hx0, hcell⟩ := at_word hC1 HN.out.symm (n - 1) (by omega); have HX := yk hx0; have HBB := yk hb; have e1 : IntKind.i64.wrap ((n : Int) - 1) = (n : Int) - 1 := wrap_i64 (by omega) (by omega); have e2 : ((n : Int) - 1).toNat = n - 1 := (by omega); have e3 : 0 ≤ (n : Int) - 1 := (by omega); have e4 : (n : Int) - 1 < n := (by omega); clear ho hb hC1 hx0))
   have hlast : (limbs (nv l)).getLast? = some x := by rw [List.getLast?_eq_getElem?, ← HN.out]; exact HX.out
   have hbw := bl_words (wf_limbs (nv l)) hlast (limbs_last _ hlast)
   rw [nv_limbs, ← HN.out, ← HT.out] at hbw
   have hbx : bl x ≤ 64 := bl_le_iff.2 ((wf_limbs (nv l)).get HX.out)
   have hT40 : T ≤ 1099511627776 := by omega
   have HBW := yk hbw
   clear hlast hbw hbx
   go_loop [3, 4] (fun v3 v4 => ∃ k y : Nat, v3 = .int .i64 k ∧ v4 = .int .u64 y ∧ y ≤ 18446744073709551615 ∧ Aside0 (k + bl y = T)) (fun _ v4 => (intOf v4).toNat)
   case atStart => exact ⟨64 * (n - 1), x, by rw [show ((64 * (n - 1) : Nat) : Int) = 64 * ((n : Int) - 1) by omega], rfl, by have := (wf_limbs (nv l)).get HX.out; omega, ⟨HBW.out.symm⟩⟩
   case round =>
    obtain ⟨k, y, rfl, rfl, hy64, HK⟩ := hrel
    by_cases hy : y = 0
    · have HE := yk (show k = T by have := HK.out; rw [hy] at this; simpa [bl_zero] using this)
      have hd : decide (0 < y) = false := decide_eq_false (by omega)
      have hn2 : y ≤ 0 := by omega
      clear hy
      go_wp2
      go_ret
      exact ⟨ret_int (by rw [← HE.out]), HBB.out⟩
    · have hyp : 0 < y := by omega
      have hkT : k ≤ 1099511627776 := by have := HK.out; omega
      have HE := yk (bl_half hyp)
      clear hy
      go_wp2
      go_round
      case rel => exact ⟨k + 1, y / 2, by go_num, by first | rfl | go_num, by omega, ⟨by have := HK.out; have := HE.out; omega⟩⟩
      case measure => simp [intOf]; omega
theorem len_any (l : List Nat) (A : Option Addr) (c : Nat) (w : World) (hr : kU.C w A l.length l) (hc : l.length ≤ c) (hw : Wf l) (hl : l.length ≤ 4294967296) :
 Calls Tryz.prog 90 #[.slice A l.length c] w fun e w' => e = .returned (.int .i64 (bl (nv l) : Int)) ∧ BL w w' :=
 len_all l A c w hr hc hw (Nat.le_trans (limbs_nv_len hw) hl)
theorem low_any (l : List Nat) (A : Option Addr) (c : Nat) (w : World) (hr : kU.C w A l.length l) (hc : l.length ≤ c) (hw : Wf l) (hl : l.length ≤ 4294967296) :
 Calls Tryz.prog 91 #[.slice A l.length c] w fun e w' => e = .returned (.int .i64 (tz (nv l) : Int)) ∧ BL w w' := by
 have HR := yk hr
 have HC := yk hc
 have HW := yk hw
 have HL := yk hl
 clear hr hw hc hl
 by_cases h0 : nv l = 0
 · have hz : ((bl (nv l) : Int) == 0) = true := by rw [h0]; rfl
   have HT := yk (show tz (nv l) = 0 by rw [h0]; exact tz_zero)
   clear h0
   go_enter Tryz.func91, Tryz.ntmps91
   go_wp2_with (go_at_call 90; go_must (refine (len_any l A c w HR.out HC.out HW.out HL.out).mono ?_; rintro e w1 ⟨rfl, hb⟩; have HBB := yk hb; clear hb))
   go_ret
   exact ⟨ret_int (by rw [HT.out]; rfl), HBB.out⟩
 · obtain ⟨T, hT⟩ : ∃ T, T = tz (nv l) := ⟨_, rfl⟩
   have hz : ((bl (nv l) : Int) == 0) = false := by rw [bl_pos h0]; simp; omega
   have HS := yk (tz_spec _ h0)
   have htb := tz_lt_bl h0
   have hbl : bl (nv l) ≤ 64 * l.length := bl_le_iff.2 (nv_lt HW.out)
   have hTb : T ≤ 1099511627776 := by have := HL.out; omega
   have HT := yk hT
   have HM := yk (show l.length ≤ 9223372036854775807 by have := HL.out; omega)
   clear h0 hT htb hbl
   rw [← HT.out]
   go_enter Tryz.func91, Tryz.ntmps91
   go_wp2_with (go_at_call 90; go_must (refine (len_any l A c w HR.out HC.out HW.out HL.out).mono ?_; rintro e w1 ⟨rfl, hb⟩; have HBB := yk hb; clear hb))
   go_loopw [3] (fun v3 wr => ∃ k : Nat, v3 = .int .i64 k ∧ k ≤ T ∧ Aside0 (BL w wr) ∧ Aside0 (∀ j, j < k → nv l / 2 ^ j % 2 = 0)) (fun v3 _ => T - (intOf v3).toNat)
   case atStart => exact ⟨0, rfl, Nat.zero_le _, HBB, ⟨fun j hj => absurd hj (by omega)⟩⟩
   case round =>
    obtain ⟨k, rfl, hk, HB2, HG⟩ := hrel
    cases hb : (nv l / 2 ^ k % 2 == 1)
    · have hkT : k < T := by
       refine Classical.byContradiction fun hc => ?_
       have hkk : k = T := by omega
       rw [hkk, HT.out, beq_eq_false_iff_ne] at hb
       exact hb HS.out.2
      have HZ := yk (show nv l / 2 ^ k % 2 = 0 by rw [beq_eq_false_iff_ne] at hb; omega)
      go_wp2_with (go_at_call 129; go_must (refine (bit_any l A c k _ (Kd.C_below HR.out HB2.out) HC.out HW.out HM.out (by omega)).mono ?_; rintro e w' ⟨rfl, n, rfl⟩))
      go_roundw
      case rel => exact ⟨k + 1, by go_num, by omega, ⟨pw_below_drewN HB2.out n⟩, ⟨fun j hj => by
       rcases Nat.lt_succ_iff_lt_or_eq.1 hj with h | rfl
       · exact HG.out j h
       · exact HZ.out⟩⟩
      case measure => simp [intOf]; omega
    · have HE := yk (show k = T by rw [HT.out]; exact (tz_of_bits (beq_iff_eq.1 hb) HG.out).symm)
      go_wp2_with (go_at_call 129; go_must (refine (bit_any l A c k _ (Kd.C_below HR.out HB2.out) HC.out HW.out HM.out (by omega)).mono ?_; rintro e w' ⟨rfl, n, rfl⟩))
      go_ret
      exact ⟨ret_int (by rw [← HE.out]), pw_below_drewN HB2.out n⟩
theorem at_word_some {w : World} {ad : Addr} {n : Nat} {xs : List Nat} (h : kU.C w (some ad) n xs) (hn : xs.length = n) (i : Nat) (hi : i < n) : w.cell? (ad.add i) = some (.int .u64 ((wd xs i : Nat) : Int)) := by
 obtain ⟨ad', x, e, hx, hc⟩ := at_word h hn i hi
 cases e
 rw [wd_of hx]; exact hc
theorem shr_any (a : List Nat) (A : Option Addr) (na c n : Nat) (hna : a.length = na) (w : World) (ha : kU.C w A na a) (hc : na ≤ c) (wa : Wf a) (la : na ≤ 1073741824) (ln : n ≤ 1099511627776) :
 Calls Tryz.prog 92 #[.slice A na c, .int .i64 (n : Int)] w fun e w' => ∃ v, e = .returned (.tuple #[v, .bool (nv a % 2 ^ n != 0)]) ∧ kU.R 64 w' w.heap.size (fun _ => True) v (limbs (nv a / 2 ^ n)) ∧ BL w w' := by
 have HA := yk ha
 have WA := yk wa
 have HNA := yk hna
 by_cases hbig : 64 * na ≤ n
 · have hlt : nv a < 2 ^ n := Nat.lt_of_lt_of_le (nv_lt wa) (Nat.pow_le_pow_right (by decide) (by omega))
   have HZ := yk (show limbs (nv a / 2 ^ n) = [] by rw [Nat.div_eq_of_lt hlt, limbs_zero])
   have HL := yk (show (nv a % 2 ^ n != 0) = decide (0 < bl (nv a)) by
    rw [Nat.mod_eq_of_lt hlt]
    by_cases h : nv a = 0
    · rw [h]; rfl
    · rw [bl_pos h]; simp [h])
   have QL := yk (len_any a A c w (by rw [hna]; exact ha) (by omega) wa (by omega))
   rw [hna] at QL
   clear ha wa hna hlt
   go_enter Tryz.func92, Tryz.ntmps92
   go_wp2_with (go_at_call 90; go_must (refine QL.out.mono ?_; rintro e w1 ⟨rfl, hb⟩; have HBB := yk hb; clear hb))
   go_ret2
   refine ⟨_, ?_, by rw [HZ.out]; exact Kd.R_nil _ _ _ _ _, HBB.out⟩
   rw [HL.out]
   first | rfl | (congr 3; simp)
 · obtain ⟨q, hq⟩ : ∃ q, q = n / 64 := ⟨_, rfl⟩
   obtain ⟨k, hk⟩ : ∃ k, k = n % 64 := ⟨_, rfl⟩
   have hdv : (n : Int).tdiv 64 = (q : Int) := by rw [Int.tdiv_eq_ediv_of_nonneg (by omega)]; omega
   have hmd : (n : Int).tmod 64 = (k : Int) := by rw [Int.tmod_eq_emod_of_nonneg (by omega)]; omega
   have hk63 : k ≤ 63 := by omega
   have hqn : q < na := by omega
   have HNK := yk (show n = 64 * q + k by omega)
   obtain ⟨ad, x0, hAe, hx0, hc0⟩ := at_word ha hna q hqn
   subst hAe
   have hsl := run_to na (some ad) c q hc (by omega)
   clear ha wa hna hq hk hx0 hc0
   go_enter Tryz.func92, Tryz.ntmps92
   go_wp2
   go_loopw [6, 26] (fun v6 v26 wr => ∃ (i : Nat) (lo : Bool), v6 = .bool lo ∧ v26 = .int .i64 i ∧ i ≤ q ∧ Aside0 (BL w wr) ∧ Aside0 (lo = (nv (a.take i) != 0))) (fun _ v26 _ => q - (intOf v26).toNat)
   case atStart => exact ⟨0, false, rfl, rfl, Nat.zero_le _, ⟨Below.refl _ _⟩, ⟨by simp [nv]⟩⟩
   case round =>
    obtain ⟨i, lo, rfl, rfl, hi, HBB, HLO⟩ := hrel
    by_cases hlt : i < q
    · have hcell := at_word_some (Kd.C_below HA.out HBB.out) HNA.out i (by omega)
      obtain ⟨x, hx⟩ : ∃ x, x = wd a i := ⟨_, rfl⟩
      rw [← hx] at hcell
      have HX := yk hx
      have hne : ((x : Int) != 0) = (x != 0) := by rw [Bool.eq_iff_iff]; simp
      clear hx
      have HLO2 : Aside0 ((lo || (x != 0)) = (nv (a.take (i + 1)) != 0)) := ⟨by
       rw [nv_take_succ, HLO.out, ← HX.out]
       have hp := Nat.two_pow_pos (64 * i)
       generalize 2 ^ (64 * i) = p at *
       generalize nv (a.take i) = m
       rw [Bool.eq_iff_iff]
       simp only [Bool.or_eq_true, bne_iff_ne, ne_eq, Nat.add_eq_zero_iff, Nat.mul_eq_zero]
       omega⟩
      obtain ⟨z, hz⟩ : ∃ z, z = (x != 0) := ⟨_, rfl⟩
      rw [← hz] at hne HLO2
      have HZ := yk hz
      clear hz
      cases lo
      all_goals
       go_wp2
       go_roundw
       case rel => exact ⟨i + 1, _, rfl, by go_num, by omega, (by first | exact HBB | exact ⟨pw_below_drewN HBB.out _⟩), ⟨by simpa using HLO2.out⟩⟩
       case measure => simp [intOf]; omega
    · obtain rfl : i = q := by omega
      clear hsl
      obtain ⟨V, hV⟩ : ∃ V, V = nv a / 2 ^ n := ⟨_, rfl⟩
      have HV := yk hV
      clear hV
      go_wp2
      go_loopw [10, 11] (fun v10 v11 wr => ∃ (j : Nat) (acc : List Nat), v11 = .int .i64 ((i + j : Nat) : Int) ∧ i + j ≤ na ∧ Aside0 (BL w wr) ∧ Aside0 (kU.R 64 wr w.heap.size (fun _ => True) v10 acc) ∧ Aside0 (acc.length = j ∧ Wf acc ∧ nv acc = V % 2 ^ (64 * j))) (fun _ v11 _ => na - (intOf v11).toNat)
      case atStart => exact ⟨0, [], rfl, by omega, HBB, ⟨Kd.R_nil _ _ _ _ _⟩, ⟨rfl, .nil, by simp [nv, Nat.mod_one]⟩⟩
      case round =>
       clear HBB
       obtain ⟨j, acc, rfl, hj, HBB, HO, HG⟩ := hrel
       obtain ⟨p, hp⟩ : ∃ p, p = i + j := ⟨_, rfl⟩
       rw [← hp] at hj ⊢
       have HP := yk hp
       by_cases hlt2 : p < na
       · have hcell := at_word_some (Kd.C_below HA.out HBB.out) HNA.out p hlt2
         obtain ⟨x, hx⟩ : ∃ x, x = wd a p := ⟨_, rfl⟩
         obtain ⟨y, hy⟩ : ∃ y, y = wd a (p + 1) := ⟨_, rfl⟩
         have hx64 : x < 18446744073709551616 := by rw [hx]; exact wd_lt WA.out _
         have hy64 : y < 18446744073709551616 := by rw [hy]; exact wd_lt WA.out _
         rw [← hx] at hcell
         obtain ⟨t, ht⟩ : ∃ t, t = (x + 2 ^ 64 * y) / 2 ^ k % 2 ^ 64 := ⟨_, rfl⟩
         have hT : t = V / 2 ^ (64 * j) % 2 ^ 64 := by
          rw [ht, hx, hy, HV.out, HNK.out, hp]
          exact (nv_down WA.out i j k).resolve_right (by omega)
         have ht64 : t < 18446744073709551616 := by rw [ht]; exact Nat.mod_lt _ (by decide)
         have HT := yk hT
         have hsr := shr_word (y := y) hx64 (show k ≤ 64 by omega)
         rw [← ht] at hsr
         have QB := yk (fun (m : World) (hm : BL w m) (jj : Int) (hjj : jj = ((p + 1 : Nat) : Int)) => word_is a (some ad) c (p + 1) y jj hjj hy.symm m (by rw [HNA.out]; exact Kd.C_below HA.out hm) (by rw [HNA.out]; exact hc) (by rw [HNA.out]; omega))
         rw [HNA.out] at QB
         obtain ⟨x1, hx1⟩ : ∃ x1, x1 = x / 2 ^ k := ⟨_, rfl⟩
         obtain ⟨y1, hy1⟩ : ∃ y1, y1 = y * 2 ^ (64 - k) % 2 ^ 64 := ⟨_, rfl⟩
         rw [← hx1, ← hy1] at hsr
         have hx164 : x1 < 18446744073709551616 := by rw [hx1]; exact Nat.lt_of_le_of_lt (Nat.div_le_self _ _) hx64
         have hy164 : y1 < 18446744073709551616 := by rw [hy1]; exact Nat.mod_lt _ (by decide)
         have hfx : (x : Int) / 2 ^ k = (x1 : Int) := by rw [hx1]; simp
         have hfy : IntKind.u64.wrap ((y : Int) * 2 ^ (64 - k)) = (y1 : Int) := by
          rw [hy1]; unfold IntKind.wrap; simp [IntKind.bits, IntKind.signed]
         have hor : bits .or .u64 (x1 : Int) (y1 : Int) = (t : Int) := by rw [bits_or_u64_nat x1 y1 hx164 hy164, hsr]
         have HX1 := yk hx1
         by_cases hk0 : k = 0
         · have hkn : k ≤ 0 := by omega
           have HTX : t = x1 := by
            rw [ht, hx1, hk0]; omega
           subst HTX
           clear hx hy ht hT hsr hx1 hy1 hp hk0
           go_wp2_with ((with_reducible refine gate_builtin (b := .append) (xs := #[.tmp 64, .tmp 66]) rfl ?_); at_builtin; go_must (refine Kd.R_append kU (w0 := w) w.heap.size rfl (.tmp 64) (.tmp 66) 23 64 (.int .u64 0) 8 rfl Tryz.underlying23 info_word rfl (by decide) (by omega) u10 acc t [.int .u64 ((t : Nat) : Int)] (fun _ => True) (fun _ => False) rfl rfl ?aP (fun _ hk => hk.elim) ?aF ?aO ?aB ?aS ?aL ?_; (case aP => exact rfl); (case aF => exact fun _ _ => trivial); (case aO => exact HO.out); (case aB => exact HBB.out); (case aS => exact (HBB.out).size); (case aL => (have := HG.out.1; have := HP.out; omega)); intro v_1 w_1 ho hb _ _; have HO' := yk ho; have HB' := yk hb; clear ho hb))
           go_roundw
           case rel =>
            refine ⟨j + 1, acc ++ [t], by rw [show ((i + (j + 1) : Nat) : Int) = (p : Int) + 1 by have := HP.out; omega], by have := HP.out; omega, HB', HO', ⟨by simp [HG.out.1], HG.out.2.1.snoc ht64, ?_⟩⟩
            rw [nv_snoc, HG.out.1, HG.out.2.2, mod_words V j, ← HT.out]
           case measure => simp [intOf]; omega
         · have hkp : 0 < k := by omega
           clear hx hy ht hT hsr hx1 hy1 hp hk0
           go_wp2_with (first | (go_at_call 94; go_must (refine (QB.out _ ?hB _ ?hJ).mono ?_; (case hB => first | exact HBB.out | exact pw_below_drewN HBB.out _); (case hJ => omega); rintro e w' ⟨rfl, n1, rfl⟩)) | ((with_reducible refine gate_builtin (b := .append) (xs := #[.tmp 64, .tmp 66]) rfl ?_); at_builtin; go_must (refine Kd.R_append kU (w0 := w) w.heap.size rfl (.tmp 64) (.tmp 66) 23 64 (.int .u64 0) 8 rfl Tryz.underlying23 info_word rfl (by decide) (by omega) u10 acc t [.int .u64 ((t : Nat) : Int)] (fun _ => True) (fun _ => False) rfl rfl ?aP (fun _ hk => hk.elim) ?aF ?aO ?aB ?aS ?aL ?_; (case aP => exact rfl); (case aF => exact fun _ _ => trivial); (case aO => exact Kd.R_drewN HO.out _); (case aB => exact pw_below_drewN HBB.out _); (case aS => exact (pw_below_drewN HBB.out _).size); (case aL => (have := HG.out.1; have := HP.out; omega)); intro v_1 w_1 ho hb _ _; have HO' := yk ho; have HB' := yk hb; clear ho hb)))
           go_roundw
           case rel =>
            refine ⟨j + 1, acc ++ [t], by rw [show ((i + (j + 1) : Nat) : Int) = (p : Int) + 1 by have := HP.out; omega], by have := HP.out; omega, HB', HO', ⟨by simp [HG.out.1], HG.out.2.1.snoc ht64, ?_⟩⟩
            rw [nv_snoc, HG.out.1, HG.out.2.2, mod_words V j, ← HT.out]
           case measure => simp [intOf]; omega
       · obtain rfl : p = na := by omega
         have HF := yk (show nv acc = V by
          rw [HG.out.2.2, Nat.mod_eq_of_lt]
          rw [HV.out, HNK.out, Nat.div_lt_iff_lt_mul (Nat.two_pow_pos _), ← Nat.pow_add]
          have h1 := nv_lt WA.out
          rw [HNA.out, HP.out] at h1
          exact Nat.lt_of_lt_of_le h1 (Nat.pow_le_pow_right (by decide) (by omega)))
         have hcell := at_word_some (Kd.C_below HA.out HBB.out) HNA.out i (by omega)
         obtain ⟨x, hx⟩ : ∃ x, x = wd a i := ⟨_, rfl⟩
         have hx64 : x < 18446744073709551616 := by rw [hx]; exact wd_lt WA.out _
         rw [← hx] at hcell
         have hmd2 := mod_down WA.out i k (by omega)
         rw [← HNK.out, ← hx] at hmd2
         have HMD := yk hmd2
         have QN := yk (fun (A1 : Option Addr) (c1 : Nat) (h1 : kU.C wr A1 acc.length acc) (h2 : acc.length ≤ c1) (m : World) (hm : BL wr m) => norm_any acc A1 c1 m (Kd.C_below h1 hm) h2 HG.out.2.1 (by have := HG.out.1; have := HP.out; omega))
         obtain ⟨y1, hy1⟩ : ∃ y1, y1 = x * 2 ^ (64 - k) % 2 ^ 64 := ⟨_, rfl⟩
         have hfy : IntKind.u64.wrap ((x : Int) * 2 ^ (64 - k)) = (y1 : Int) := by
          rw [hy1]; unfold IntKind.wrap; simp [IntKind.bits, IntKind.signed]
         obtain ⟨z, hz⟩ : ∃ z, z = (y1 != 0) := ⟨_, rfl⟩
         have hne : ((y1 : Int) != 0) = z := by rw [hz, Bool.eq_iff_iff]; simp
         have HZ := yk (show (nv a % 2 ^ n != 0) = (lo || z) by
          rw [hmd2, HLO.out, hz, hy1, up_word x k (by omega)]
          have hp1 := Nat.two_pow_pos (64 * i)
          have hp2 := Nat.two_pow_pos (64 - k)
          generalize 2 ^ (64 * i) = P1 at *
          generalize 2 ^ (64 - k) = P2 at *
          generalize x % 2 ^ k = m
          generalize nv (a.take i) = m2
          rw [Bool.eq_iff_iff]
          simp only [Bool.or_eq_true, bne_iff_ne, ne_eq, Nat.add_eq_zero_iff, Nat.mul_eq_zero]
          omega)
         have HL0 := yk (show k = 0 → (nv a % 2 ^ n != 0) = lo by
          intro h; rw [hmd2, h, HLO.out]; simp [Nat.mod_one])
         clear hx hmd2 hy1 hz hp
         by_cases hk0 : k = 0
         · have hkn : k ≤ 0 := by omega
           have HL1 := yk (HL0.out hk0)
           clear hk0
           go_wp2_with (go_at_call 89; go_must (obtain ⟨A1, c1, rfl, hc1, hC1⟩ := Kd.R_reads HO.out; refine (QN.out A1 c1 hC1 hc1 _ (by first | exact Below.refl _ _ | exact pw_below_drewN yr _)).mono ?_; rintro e w1 ⟨v, rfl, ho, hb⟩; rw [HF.out] at ho; have HO2 := yk ho; have HB2 := yk hb; clear ho hb))
           go_ret2
           refine ⟨_, by rw [HL1.out]; rfl, by rw [← HV.out]; exact Kd.R_lower HO2.out HBB.out.size, below_then HBB.out HBB.out.size HB2.out⟩
         · have hkp : 0 < k := by omega
           clear hk0
           cases lo
           all_goals
            go_wp2_with (go_at_call 89; go_must (obtain ⟨A1, c1, rfl, hc1, hC1⟩ := Kd.R_reads HO.out; refine (QN.out A1 c1 hC1 hc1 _ (by first | exact Below.refl _ _ | exact pw_below_drewN yr _)).mono ?_; rintro e w1 ⟨v, rfl, ho, hb⟩; rw [HF.out] at ho; have HO2 := yk ho; have HB2 := yk hb; clear ho hb))
            go_ret2
            refine ⟨_, by rw [HZ.out]; rfl, by rw [← HV.out]; exact Kd.R_lower HO2.out (by first | exact HBB.out.size | exact (pw_below_drewN HBB.out _).size), by first | exact below_then HBB.out HBB.out.size HB2.out | exact below_then (pw_below_drewN HBB.out _) (pw_below_drewN HBB.out _).size HB2.out⟩
section
variable {P : Program} {ops : Array Oper} {rest : List Oper} {o : Oper} {a : Act} {Q : Exit → Act → World → Prop}
theorem store_box {W : World} (t : TypeId) (p : Tmp) (x : Operand) (ho : o.op = .store t (.tmp p) x) (hgd : o.guard = none) (hN : o.dst = none) {g : Nat} {cur : Array Value} {e : TypeId} (u : Value) (seg : List Value)
 (haddr : a.eval (.tmp p) = .pointer (some ⟨g, 0, none⟩)) (hx : a.eval x = u) (hu : u.cells.toList = seg) (ht : (P.info? t).map (·.size) = some seg.length) (h1 : ∀ q ∈ seg, q.oneCell' = true)
 (hh : W.heap[g]? = some (.cells cur e (0, 0))) (hlen : cur.size = seg.length)
 (h : ∀ w1, w1.heap[g]? = some (.cells seg.toArray e (0, 0)) → W.grownBy w1 (some g) → wpList P ops Q rest a w1) : wpList P ops Q (o :: rest) a W := by
 have hst := run_store_run (P := P) t u seg hh hu ht (o := 0) (by omega) h1
 refine store_event hgd ho hN (w1 := W.setCells g 0 seg) ?_ ?_
 · simp [execOp, ho, haddr, hx, hst]
 · rintro w' rfl
   obtain ⟨cur', h3, h4, h5⟩ := setCells_row seg 0 W cur hh (by omega)
   obtain ⟨s1, s2, s3, s4⟩ := setCells_same g seg 0 W
   refine h _ ?_ ⟨s1, s2, s3, by rw [s4]; exact Nat.le_refl _, fun k _ hk => setCells_far seg _ k (fun he => hk (by rw [he]))⟩
   rw [h3]
   have : cur' = seg.toArray := by
    apply Array.toList_inj.1
    rw [h5]; simp
    omega
   rw [this]
end
theorem box_cell {w : World} {g : Nat} {e : TypeId} {cur : Array Value} (hh : w.heap[g]? = some (.cells cur e (0, 0))) (i : Nat) {v : Value} (hi : cur[i]? = some v) : w.cell? ⟨g, i, none⟩ = some v ∧ w.frozen? ⟨g, i, none⟩ = false :=
 ⟨(cell_of_row w g i cur e (0, 0) hh).trans hi, blk_frozen hh _⟩
theorem size_alloc' (w : World) (o : Obj) : (w.alloc o).heap.size = w.heap.size + 1 := by simp [go_sem]
theorem bc1 {w : World} {g : Nat} {e : TypeId} {v0 : Value} (h : w.heap[g]? = some (.cells #[v0] e (0, 0))) : w.cell? ⟨g, 0, none⟩ = some v0 ∧ w.frozen? ⟨g, 0, none⟩ = false := ⟨(box_cell h 0 rfl).1, (box_cell h 0 rfl).2⟩
theorem bc2 {w : World} {g : Nat} {e : TypeId} {v0 v1 : Value} (h : w.heap[g]? = some (.cells #[v0, v1] e (0, 0))) : w.cell? ⟨g, 0, none⟩ = some v0 ∧ w.frozen? ⟨g, 0, none⟩ = false ∧ w.cell? ⟨g, 1, none⟩ = some v1 ∧ w.frozen? ⟨g, 1, none⟩ = false := ⟨(box_cell h 0 rfl).1, (box_cell h 0 rfl).2, (box_cell h 1 rfl).1, (box_cell h 1 rfl).2⟩
theorem bc3 {w : World} {g : Nat} {e : TypeId} {v0 v1 v2 : Value} (h : w.heap[g]? = some (.cells #[v0, v1, v2] e (0, 0))) : w.cell? ⟨g, 0, none⟩ = some v0 ∧ w.frozen? ⟨g, 0, none⟩ = false ∧ w.cell? ⟨g, 1, none⟩ = some v1 ∧ w.frozen? ⟨g, 1, none⟩ = false ∧ w.cell? ⟨g, 2, none⟩ = some v2 ∧ w.frozen? ⟨g, 2, none⟩ = false := ⟨(box_cell h 0 rfl).1, (box_cell h 0 rfl).2, (box_cell h 1 rfl).1, (box_cell h 1 rfl).2, (box_cell h 2 rfl).1, (box_cell h 2 rfl).2⟩
theorem bc4 {w : World} {g : Nat} {e : TypeId} {v0 v1 v2 v3 : Value} (h : w.heap[g]? = some (.cells #[v0, v1, v2, v3] e (0, 0))) : w.cell? ⟨g, 0, none⟩ = some v0 ∧ w.frozen? ⟨g, 0, none⟩ = false ∧ w.cell? ⟨g, 1, none⟩ = some v1 ∧ w.frozen? ⟨g, 1, none⟩ = false ∧ w.cell? ⟨g, 2, none⟩ = some v2 ∧ w.frozen? ⟨g, 2, none⟩ = false ∧ w.cell? ⟨g, 3, none⟩ = some v3 ∧ w.frozen? ⟨g, 3, none⟩ = false := ⟨(box_cell h 0 rfl).1, (box_cell h 0 rfl).2, (box_cell h 1 rfl).1, (box_cell h 1 rfl).2, (box_cell h 2 rfl).1, (box_cell h 2 rfl).2, (box_cell h 3 rfl).1, (box_cell h 3 rfl).2⟩
theorem bc5 {w : World} {g : Nat} {e : TypeId} {v0 v1 v2 v3 v4 : Value} (h : w.heap[g]? = some (.cells #[v0, v1, v2, v3, v4] e (0, 0))) : w.cell? ⟨g, 0, none⟩ = some v0 ∧ w.frozen? ⟨g, 0, none⟩ = false ∧ w.cell? ⟨g, 1, none⟩ = some v1 ∧ w.frozen? ⟨g, 1, none⟩ = false ∧ w.cell? ⟨g, 2, none⟩ = some v2 ∧ w.frozen? ⟨g, 2, none⟩ = false ∧ w.cell? ⟨g, 3, none⟩ = some v3 ∧ w.frozen? ⟨g, 3, none⟩ = false ∧ w.cell? ⟨g, 4, none⟩ = some v4 ∧ w.frozen? ⟨g, 4, none⟩ = false := ⟨(box_cell h 0 rfl).1, (box_cell h 0 rfl).2, (box_cell h 1 rfl).1, (box_cell h 1 rfl).2, (box_cell h 2 rfl).1, (box_cell h 2 rfl).2, (box_cell h 3 rfl).1, (box_cell h 3 rfl).2, (box_cell h 4 rfl).1, (box_cell h 4 rfl).2⟩
theorem bc6 {w : World} {g : Nat} {e : TypeId} {v0 v1 v2 v3 v4 v5 : Value} (h : w.heap[g]? = some (.cells #[v0, v1, v2, v3, v4, v5] e (0, 0))) : w.cell? ⟨g, 0, none⟩ = some v0 ∧ w.frozen? ⟨g, 0, none⟩ = false ∧ w.cell? ⟨g, 1, none⟩ = some v1 ∧ w.frozen? ⟨g, 1, none⟩ = false ∧ w.cell? ⟨g, 2, none⟩ = some v2 ∧ w.frozen? ⟨g, 2, none⟩ = false ∧ w.cell? ⟨g, 3, none⟩ = some v3 ∧ w.frozen? ⟨g, 3, none⟩ = false ∧ w.cell? ⟨g, 4, none⟩ = some v4 ∧ w.frozen? ⟨g, 4, none⟩ = false ∧ w.cell? ⟨g, 5, none⟩ = some v5 ∧ w.frozen? ⟨g, 5, none⟩ = false := ⟨(box_cell h 0 rfl).1, (box_cell h 0 rfl).2, (box_cell h 1 rfl).1, (box_cell h 1 rfl).2, (box_cell h 2 rfl).1, (box_cell h 2 rfl).2, (box_cell h 3 rfl).1, (box_cell h 3 rfl).2, (box_cell h 4 rfl).1, (box_cell h 4 rfl).2, (box_cell h 5 rfl).1, (box_cell h 5 rfl).2⟩
end Go.Proofs.YtkdicconchobfaaGreatDoor

namespace Limb
def sgn (b : Bool) (n : Nat) : Int := if b then -(n : Int) else n
def cneg (z : Int) : Bool := decide (z < 0)
def cman (z : Int) : Nat := z.natAbs / 2 ^ tz z.natAbs
def cexp (z e : Int) : Int := if z = 0 then 0 else e + tz z.natAbs
theorem sgn_abs (b : Bool) (n : Nat) : (sgn b n).natAbs = n := by unfold sgn; split <;> omega
theorem sgn_zero (b : Bool) : sgn b 0 = 0 := by cases b <;> rfl
theorem sgn_eq_zero {b : Bool} {n : Nat} : sgn b n = 0 ↔ n = 0 := by unfold sgn; split <;> omega
theorem sgn_self (z : Int) : sgn (cneg z) z.natAbs = z := by
 unfold sgn cneg
 by_cases h : z < 0
 · simp [h]; omega
 · simp [h]; omega
theorem cneg_sgn {b : Bool} {n : Nat} (h : n ≠ 0) : cneg (sgn b n) = b := by
 unfold cneg sgn
 cases b <;> simp <;> omega
theorem cman_sgn (b : Bool) (n : Nat) : cman (sgn b n) = n / 2 ^ tz n := by unfold cman; rw [sgn_abs]
theorem cexp_sgn {b : Bool} {n : Nat} (h : n ≠ 0) (e : Int) : cexp (sgn b n) e = e + tz n := by
 unfold cexp; rw [sgn_abs, if_neg (fun h2 => h (sgn_eq_zero.1 h2))]
theorem cman_zero : cman 0 = 0 := by unfold cman; simp
theorem cexp_zero (e : Int) : cexp 0 e = 0 := rfl
theorem cman_eq_zero {z : Int} : cman z = 0 ↔ z = 0 := by
 constructor
 · intro h
   refine Classical.byContradiction fun h0 => ?_
   have h1 : z.natAbs ≠ 0 := by omega
   obtain ⟨h2, h3⟩ := tz_spec z.natAbs h1
   unfold cman at h
   rw [h] at h3
   omega
 · rintro rfl; exact cman_zero
theorem natAbs_mul_pow (z : Int) (k : Nat) : (z * 2 ^ k).natAbs = z.natAbs * 2 ^ k := by
 rw [Int.natAbs_mul]; congr 1
theorem mul_pow_ne {z : Int} (h : z ≠ 0) (k : Nat) : z * 2 ^ k ≠ 0 := by
 intro h2
 have := natAbs_mul_pow z k
 rw [h2] at this
 have h3 := Nat.two_pow_pos k
 have h4 : z.natAbs * 2 ^ k ≠ 0 := Nat.mul_ne_zero (by omega) (by omega)
 simp at this
 omega
theorem cneg_mul (z : Int) (k : Nat) : cneg (z * 2 ^ k) = cneg z := by
 unfold cneg
 have h3 : (0 : Int) < 2 ^ k := Int.pow_pos (by decide)
 congr 1
 rw [eq_iff_iff]
 constructor
 · intro h
   refine Classical.byContradiction fun hc => ?_
   have := Int.mul_nonneg (show (0 : Int) ≤ z by omega) (Int.le_of_lt h3)
   omega
 · intro h; exact Int.mul_neg_of_neg_of_pos h h3
theorem cman_mul (z : Int) (k : Nat) : cman (z * 2 ^ k) = cman z := by
 by_cases h : z = 0
 · subst h; simp
 · unfold cman
   rw [natAbs_mul_pow]
   exact (tz_mul_pow (by omega) k).2
theorem cexp_mul (z e : Int) (k : Nat) : cexp (z * 2 ^ k) e = cexp z (e + k) := by
 by_cases h : z = 0
 · subst h; simp [cexp_zero]
 · unfold cexp
   rw [if_neg (mul_pow_ne h k), if_neg h, natAbs_mul_pow, (tz_mul_pow (by omega) k).1]
   omega
theorem of_form {z e : Int} (h : z ≠ 0) : ∃ k : Nat, cexp z e = e + k ∧ z = sgn (cneg z) (cman z * 2 ^ k) ∧ k = tz z.natAbs := by
 refine ⟨tz z.natAbs, ?_, ?_, rfl⟩
 · unfold cexp; rw [if_neg h]
 · unfold cman
   rw [← (tz_spec z.natAbs (by omega)).1, sgn_self]
theorem sgn_mul (b c : Bool) (m n : Nat) : sgn (b != c) (m * n) = sgn b m * sgn c n := by
 cases b <;> cases c <;> simp [sgn, Int.neg_mul, Int.mul_neg]
theorem sgn_pow (b : Bool) (m k : Nat) : sgn b (m * 2 ^ k) = sgn b m * 2 ^ k := by
 cases b <;> simp [sgn, Int.neg_mul]
theorem sgn_add (b : Bool) (m n : Nat) : sgn b (m + n) = sgn b m + sgn b n := by
 cases b <;> simp [sgn]; omega
theorem sgn_sub {b c : Bool} (h : b ≠ c) {m n : Nat} (hmn : n ≤ m) : sgn b (m - n) = sgn b m + sgn c n := by
 cases b <;> cases c <;> simp [sgn] at * <;> omega
end Limb

namespace Go.Proofs.YtkdicconchobfaaGreatDoor
open Go.RowKit Go.Proofs.YtkdicconchobfaaGreatDoorW.PrintWords Limb
set_option linter.unusedVariables false
set_option linter.unusedSimpArgs false
theorem info_dyad : (Tryz.prog.info? 25).map (·.size) = some 3 := by kernel_rfl
theorem any_dyad : (Tryz.prog.underlying 25).any (fun d => match d with | .struct _ | .array _ _ => true | _ => false) = true := by kernel_rfl
theorem under_dyad : ∃ d, Tryz.prog.underlying 25 = some d ∧ (match d with | .struct _ | .array _ _ => true | _ => false) = true := by
 have h := any_dyad
 cases hd : Tryz.prog.underlying 25 with
 | none => rw [hd] at h; cases h
 | some d => rw [hd] at h; exact ⟨d, rfl, h⟩
theorem results_dyad {fn : Func} {p : Tmp} (h : fn.results = #[.cell p 25]) (tmps : Array Value) (w : World) (g : Nat) (cs : Array Value) (hp : tmps.getD p undef = .pointer (some ⟨g, 0, none⟩)) (hg : w.heap[g]? = some (.cells cs 25 (0, 0))) (hs : cs.size = 3) :
 (results fn tmps).run Tryz.prog w = .ok (.agg cs) w := by
 obtain ⟨d, hu, hd⟩ := under_dyad
 refine results_single h (.cell g _ cs (0, 0) d hp hg hu ?_ (by rw [hs]; exact info_dyad) .nil)
 revert hu hd
 cases d <;> intro hu hd <;> first | rfl | cases hd
def RDy (w : World) (base : Nat) (v : Value) (z e : Int) : Prop :=
 ∃ A n c, v = .agg #[.bool (cneg z), .slice A n c, .int .i64 (cexp z e)] ∧ kU.R 64 w base (fun _ => True) (.slice A n c) (limbs (cman z))
def CDy (w : World) (v : Value) (z e : Int) : Prop :=
 ∃ A n c, v = .agg #[.bool (cneg z), .slice A n c, .int .i64 (cexp z e)] ∧ kU.C w A n (limbs (cman z)) ∧ (limbs (cman z)).length = n ∧ n ≤ c
theorem RDy.lower {w : World} {b b' : Nat} {v : Value} {z e : Int} (h : RDy w b v z e) (hb : b' ≤ b) : RDy w b' v z e := by
 obtain ⟨A, n, c, rfl, hr⟩ := h
 exact ⟨A, n, c, rfl, Kd.R_lower hr hb⟩
theorem CDy.below {w w1 : World} {v : Value} {z e : Int} (h : CDy w v z e) (hb : BL w w1) : CDy w1 v z e := by
 obtain ⟨A, n, c, rfl, hr, h1, h2⟩ := h
 exact ⟨A, n, c, rfl, Kd.C_below hr hb, h1, h2⟩
theorem RDy.grown {w w1 : World} {b g : Nat} {v : Value} {z e : Int} (h : RDy w b v z e) (hg : w.grownBy w1 (some g)) (hgb : g < b) : RDy w1 b v z e := by
 obtain ⟨A, n, c, rfl, hr⟩ := h
 refine ⟨A, n, c, rfl, Kd.R_mono (Kd.R_grown (Kd.R_bound hr) hg ?_) (fun _ _ => trivial)⟩
 rintro k ⟨_, hk, _⟩ he
 cases he
 omega
theorem form_any (neg : Bool) (l : List Nat) (A : Option Addr) (n c : Nat) (ex : Int) (hn : l.length = n) (w : World) (hl : kU.C w A n l) (hc : n ≤ c) (wl : Wf l) (ln : n ≤ 1073741824) (le1 : -1099511627776 ≤ ex) (le2 : ex ≤ 1099511627776) :
 Calls Tryz.prog 46 #[.bool neg, .slice A n c, .int .i64 ex] w fun e w' => ∃ v, e = .returned v ∧ RDy w' w.heap.size v (sgn neg (nv l)) ex ∧ BL w w' := by
 have QN := yk (fun (m : World) (hm : BL w m) => norm_any l A c m (by rw [hn]; exact Kd.C_below hl hm) (by omega) wl (by omega))
 rw [hn] at QN
 by_cases h0 : nv l = 0
 · have HZ := yk (show limbs (nv l) = [] by rw [h0]; exact limbs_zero)
   have HV := yk (show sgn neg (nv l) = 0 by rw [h0]; exact sgn_zero neg)
   clear hl h0
   go_enter Tryz.func46, Tryz.ntmps46
   go_wp2_with (first
    | (go_at_call 89; go_must (refine (QN.out _ (below_alloc yr _)).mono ?_; rintro e w1 ⟨v, rfl, ho, hb⟩; obtain ⟨A1, c1, rfl, hc1, hC1⟩ := Kd.R_reads ho; rw [HZ.out] at hC1 hc1 ho ⊢; have HB := yk hb; have HH := yk (yb (blk_new w _) hb); clear hb ho hC1 hc1))
    | ((with_reducible refine gate_store (p := 6) rfl ?_); go_must (refine store_box 25 6 (.tmp 16) rfl rfl rfl (g := w.heap.size) (e := 25) (.agg #[.bool false, .slice none 0 0, .int .i64 0]) ([.bool false, .slice none 0 0, .int .i64 0]) rfl rfl rfl info_dyad ?b1 HH.out rfl ?_; (case b1 => intro q hq; simp at hq; rcases hq with rfl | rfl | rfl <;> rfl); intro wb hbx hgx; have HX := yk hbx; have HG := yk hgx; clear hbx hgx)))
   refine bodyPost_ret (results_dyad rfl _ _ w.heap.size _ rfl HX.out rfl) rfl ?_
   refine ⟨_, rfl, ⟨none, 0, 0, by rw [HV.out]; rfl, by rw [HV.out, cman_zero, limbs_zero]; exact Kd.R_nil _ _ _ _ _⟩, ?_⟩
   exact (below_then (below_alloc yr _) (below_alloc (Below.refl w.heap.size w) _).size HB.out).grown HG.out (below_then (below_alloc yr _) (below_alloc (Below.refl w.heap.size w) _).size HB.out).size (fun k hk => by cases hk; exact Nat.le_refl _)
 · obtain ⟨L, hL⟩ : ∃ L, L = limbs (nv l) := ⟨_, rfl⟩
   obtain ⟨n1, hn1⟩ : ∃ n, n = L.length := ⟨_, rfl⟩
   obtain ⟨k, hk⟩ : ∃ k, k = tz (nv l) := ⟨_, rfl⟩
   have hn0 : n1 ≠ 0 := by
    rw [hn1, hL]; intro h; exact h0 (limbs_eq_nil.1 (List.length_eq_zero_iff.1 h))
   have hnn : n1 ≤ n := by have := limbs_nv_len wl; rw [hn1, hL]; omega
   have hkb : k ≤ 68719476736 := by
    have h1 := tz_lt_bl h0
    have h2 : bl (nv l) ≤ 64 * l.length := bl_le_iff.2 (nv_lt wl)
    omega
   have WL := yk (show Wf L by rw [hL]; exact wf_limbs _)
   have VL := yk (show nv L = nv l by rw [hL, nv_limbs])
   have NL := yk hn1.symm
   have HK := yk hk
   have HN0 := yk h0
   have HL := yk hL
   clear hl h0 hL hn1 hk
   have hz : ((n1 : Int) == 0) = false := by simp; omega
   go_enter Tryz.func46, Tryz.ntmps46
   go_wp2_with (first
    | (go_at_call 89; go_must (refine (QN.out _ (below_alloc yr _)).mono ?_; rintro e w1 ⟨v, rfl, ho, hb⟩; rw [← HL.out] at ho; obtain ⟨A1, c1, rfl, hc1, hC1⟩ := Kd.R_reads ho; rw [NL.out] at hC1 hc1 ho ⊢; have C1 := yk hC1; have HB := yk hb; have HH := yk (yb (blk_new w _) hb); clear hb ho hC1))
    | (go_at_call 91; go_must (have QL := low_any L A1 c1 w1 (by rw [NL.out]; exact C1.out) (by rw [NL.out]; exact hc1) WL.out (by rw [NL.out]; omega); rw [NL.out, VL.out, ← HK.out] at QL; refine QL.mono ?_; rintro e w2 ⟨rfl, hb⟩; have C2 := yk (Kd.C_below C1.out hb); have HB2 := yk hb; have HH2 := yk (yb HH.out hb); clear hb QL))
    | (go_at_call 92; go_must (have QS := shr_any L A1 n1 c1 k NL.out w2 C2.out hc1 WL.out (by omega) (by omega); rw [VL.out] at QS; refine QS.mono ?_; rintro e w3 ⟨v, rfl, ho, hb⟩; obtain ⟨A2, c2, rfl, hc2, hC2⟩ := Kd.R_reads ho; have HO := yk ho; have HB3 := yk hb; have HH3 := yk (yb HH2.out hb); clear hb QS ho hC2))
    | ((with_reducible refine gate_store (p := 6) rfl ?_); go_must (refine store_box 25 6 (.tmp 30) rfl rfl rfl (g := w.heap.size) (e := 25) (.agg #[.bool neg, .slice A2 (limbs (nv l / 2 ^ k)).length c2, .int .i64 (ex + k)]) ([.bool neg, .slice A2 (limbs (nv l / 2 ^ k)).length c2, .int .i64 (ex + k)]) rfl rfl rfl info_dyad ?b1 HH3.out rfl ?_; (case b1 => intro q hq; simp at hq; rcases hq with rfl | rfl | rfl <;> rfl); intro wb hbx hgx; have HX := yk hbx; have HG := yk hgx; clear hbx hgx)))
   refine bodyPost_ret (results_dyad rfl _ _ w.heap.size _ rfl HX.out rfl) rfl ?_
   have b0 : BL w w1 := below_then (below_alloc yr _) (below_alloc (Below.refl w.heap.size w) _).size HB.out
   have b1 := below_then b0 b0.size HB2.out
   have b2 := below_then b1 b1.size HB3.out
   refine ⟨_, rfl, ?_, b2.grown HG.out b2.size (fun k hk => by cases hk; exact Nat.le_refl _)⟩
   refine RDy.lower (b := w2.heap.size) ?_ b1.size
   refine RDy.grown (w := w3) ?_ HG.out ?_
   · refine ⟨A2, (limbs (nv l / 2 ^ k)).length, c2, ?_, ?_⟩
     · rw [cneg_sgn HN0.out, cexp_sgn HN0.out, ← HK.out]
     · rw [cman_sgn, ← HK.out]; exact HO.out
   · exact blk_lt HH2.out
section
variable {ops : Array Oper} {rest : List Oper} {o : Oper} {a : Act} {Q : Exit → Act → World → Prop}
/-- A number laid into its box. -/
theorem sdy {W : World} (p : Tmp) (x : Operand) (ho : o.op = .store 25 (.tmp p) x) (hgd : o.guard = none) (hN : o.dst = none) {g : Nat} {cur : Array Value} {b : Bool} {A : Option Addr} {n c : Nat} {e : Int}
 (haddr : a.eval (.tmp p) = .pointer (some ⟨g, 0, none⟩)) (hx : a.eval x = .agg #[.bool b, .slice A n c, .int .i64 e])
 (hh : W.heap[g]? = some (.cells cur 25 (0, 0))) (hlen : cur.size = 3)
 (h : ∀ w1, Aside0 (w1.heap[g]? = some (.cells #[.bool b, .slice A n c, .int .i64 e] 25 (0, 0))) → Aside0 (W.grownBy w1 (some g)) → wpList Tryz.prog ops Q rest a w1) : wpList Tryz.prog ops Q (o :: rest) a W :=
 store_box 25 p x ho hgd hN (.agg #[.bool b, .slice A n c, .int .i64 e]) [.bool b, .slice A n c, .int .i64 e] haddr hx rfl info_dyad (by intro q hq; simp at hq; rcases hq with rfl | rfl | rfl <;> rfl) hh hlen (fun w1 h1 h2 => h w1 ⟨h1⟩ ⟨h2⟩)
end
theorem C_word (W : World) (x : Nat) (t : TypeId) {g : Nat} (hg : g = W.heap.size) : kU.C (W.alloc (.cells #[.int .u64 (x : Int)] t)) (some ⟨g, 0, none⟩) 1 [x] := by
 subst hg
 have hR : kU.R t _ W.heap.size (fun _ => True) _ [x] := Kd.R_of_own (own_lit_of (enc := fun n : Nat => Value.int .u64 (n : Int)) W W.heap.size t [x] (Nat.le_refl _) (show 1 ≤ 9223372036854775807 by decide)) (fun _ _ => trivial)
 exact (Kd.R_reads' hR).2.2
theorem of_any (x : Nat) (hx : x < 18446744073709551616) (w : World) :
 Calls Tryz.prog 47 #[.int .u64 (x : Int)] w fun e w' => ∃ v, e = .returned v ∧ kU.R 64 w' w.heap.size (fun _ => True) v (limbs x) ∧ BL w w' := by
 have HX := yk (show Wf [x] from .cons hx .nil)
 have HV := yk (show nv [x] = x by simp [nv])
 clear hx
 go_enter Tryz.func47, Tryz.ntmps47
 go_wp2_with (go_at_call 89; go_must (refine (norm_any [x] (some ⟨w.heap.size, 0, none⟩) 1 _ (C_word w x _ rfl) (show 1 ≤ 1 from Nat.le_refl 1) HX.out (show 1 ≤ 4294967296 by decide)).mono ?_; rintro e w1 ⟨v, rfl, ho, hb⟩; rw [HV.out] at ho; have HO := yk ho; have HBB := yk hb; clear ho hb))
 go_ret
 exact ⟨_, rfl, Kd.R_lower HO.out (below_alloc (Below.refl w.heap.size w) _).size, below_then (below_alloc (Below.refl w.heap.size w) _) (below_alloc (Below.refl w.heap.size w) _).size HBB.out⟩
theorem same_nat (l r : List Nat) (A B : Option Addr) (c d : Nat) (w : World) (hl : kU.C w A l.length l) (hr : kU.C w B r.length r) (hc : l.length ≤ c) (hd : r.length ≤ d) (hm : l.length ≤ 9223372036854775807) :
 Calls Tryz.prog 38 #[.slice A l.length c, .slice B r.length d] w fun e w' => e = .returned (.bool (decide (l = r))) ∧ ∃ n, w' = w.drewN n := by
 have HL := yk hl
 have HR := yk hr
 clear hl hr
 by_cases hlen : l.length = r.length
 · have hne : ((l.length : Int) != (r.length : Int)) = false := by simp [hlen]
   have HLEN := yk hlen
   clear hlen
   go_enter Tryz.func38, Tryz.ntmps38
   go_wp2
   clear hne
   go_loopw [13] (fun i wr => ∃ (k : Nat), i = .int .i64 k ∧ k ≤ l.length ∧ Aside0 (∃ n, wr = w.drewN n) ∧ Aside0 (∀ j, j < k → l[j]? = r[j]?)) (fun i _ => l.length - (intOf i).toNat)
   case atStart => exact ⟨0, rfl, Nat.zero_le _, ⟨⟨0, rfl⟩⟩, ⟨fun j h => by omega⟩⟩
   case round =>
    obtain ⟨k, rfl, hk, HW, HG⟩ := hrel
    obtain ⟨nw, rfl⟩ := HW.out
    clear HW
    by_cases hlt : k < l.length
    · have hlt2 : k < r.length := by have := HLEN.out; omega
      obtain ⟨ad, x, rfl, hx0, hcell⟩ := at_word HL.out rfl k hlt
      obtain ⟨bd, y, rfl, hy0, hcell2⟩ := at_word HR.out rfl k hlt2
      have hx := yk hx0
      have hy := yk hy0
      clear hx0 hy0
      by_cases heq : x = y
      · have hne : ((x : Int) != (y : Int)) = false := by simp [heq]
        have HE := yk heq
        clear heq
        go_wp2
        repeat (go_quiet (fail); try go_wp2)
        go_roundw
        case rel =>
         refine ⟨k + 1, by go_num, by omega, ⟨⟨_, rfl⟩⟩, ⟨fun j hj => ?_⟩⟩
         by_cases h : j < k
         · exact HG.out j h
         · have : j = k := by omega
           subst this
           rw [hx.out, hy.out, HE.out]
        case measure => simp [intOf]; omega
      · have hne : ((x : Int) != (y : Int)) = true := by simp; omega
        have HS := yk (show decide (l = r) = false by
         refine decide_eq_false fun h => heq ?_
         have := hx.out
         rw [h, hy.out] at this
         exact (Option.some.inj this).symm)
        clear heq
        go_wp2
        repeat (go_quiet (fail); try go_wp2)
        go_ret
        exact ⟨by rw [HS.out]; rfl, ⟨_, World.drewN_drewN _ _ _⟩⟩
    · obtain rfl : k = l.length := by omega
      have HS := yk (show decide (l = r) = true by
       refine decide_eq_true (List.ext_getElem? fun i => ?_)
       by_cases hi : i < l.length
       · exact HG.out i hi
       · rw [List.getElem?_eq_none (by omega), List.getElem?_eq_none (by have := HLEN.out; omega)])
      go_wp2
      go_ret
      exact ⟨by rw [HS.out]; rfl, ⟨nw, rfl⟩⟩
 · have hne : ((l.length : Int) != (r.length : Int)) = true := by simp; omega
   have HS := yk (show decide (l = r) = false from decide_eq_false fun h => hlen (by rw [h]))
   clear hlen
   go_enter Tryz.func38, Tryz.ntmps38
   go_wp2
   go_ret
   exact ⟨by rw [HS.out]; rfl, ⟨0, rfl⟩⟩
theorem cmp_any (a b : List Nat) (A B : Option Addr) (c d : Nat) (w : World) (ha : kU.C w A a.length a) (hb : kU.C w B b.length b) (hc : a.length ≤ c) (hd : b.length ≤ d) (wa : Wf a) (wb : Wf b) (la : a.length ≤ 4294967296) (lb : b.length ≤ 4294967296) :
 Calls Tryz.prog 55 #[.slice A a.length c, .slice B b.length d] w fun e w' => e = .returned (.int .i64 (cmpN (nv a) (nv b))) ∧ ∃ n, w' = w.drewN n := by
 have HA := yk ha
 have HB := yk hb
 have WA := yk wa
 have WB := yk wb
 have ma : a.length ≤ 9223372036854775807 := by omega
 have mb : b.length ≤ 9223372036854775807 := by omega
 clear ha hb wa wb
 rcases Nat.lt_or_ge a.length b.length with hab | hab
 all_goals
  go_enter Tryz.func55, Tryz.ntmps55
  go_wp2
  go_loopw [5] (fun v5 wr => ∃ k : Nat, v5 = .int .i64 ((k : Int) - 1) ∧ k ≤ 4294967296 ∧ Aside0 (∃ n, wr = w.drewN n) ∧ Aside0 (nv (a.drop k) = nv (b.drop k))) (fun v5 _ => (intOf v5 + 1).toNat)
  case atStart => first | exact ⟨b.length, by first | rfl | (rw [Int.max_eq_right (by omega)]) | (rw [Int.max_eq_left (by omega)]), by omega, ⟨⟨0, rfl⟩⟩, ⟨by rw [List.drop_eq_nil_of_le (by omega), List.drop_eq_nil_of_le (by omega)]⟩⟩ | exact ⟨a.length, by first | rfl | (rw [Int.max_eq_left (by omega)]) | (rw [Int.max_eq_right (by omega)]), by omega, ⟨⟨0, rfl⟩⟩, ⟨by rw [List.drop_eq_nil_of_le (by omega), List.drop_eq_nil_of_le (by omega)]⟩⟩
  case round =>
   clear hab
   obtain ⟨k, rfl, hk, HW, HG⟩ := hrel
   obtain ⟨nw, rfl⟩ := HW.out
   clear HW
   by_cases hk0 : k = 0
   · subst hk0
     have HE := yk (show nv a = nv b by simpa using HG.out)
     have HS := yk (show cmpN (nv a) (nv b) = 0 by unfold cmpN; rw [HE.out]; simp)
     go_wp2
     go_ret
     exact ⟨ret_int (by rw [HS.out]), ⟨nw, rfl⟩⟩
   · obtain ⟨j, rfl⟩ : ∃ j, k = j + 1 := ⟨k - 1, by omega⟩
     have hj1 : ((j + 1 : Nat) : Int) - 1 = (j : Int) := by omega
     rw [hj1]
     clear hj1 hk0
     have h0 : (0 : Int) ≤ (j : Int) := by omega
     obtain ⟨x, hx⟩ : ∃ x, x = wd a j := ⟨_, rfl⟩
     obtain ⟨y, hy⟩ : ∃ y, y = wd b j := ⟨_, rfl⟩
     have HX := yk hx
     have HY := yk hy
     clear hx hy
     have QA : ∀ m, Calls Tryz.prog 94 #[.slice A a.length c, .int .i64 (j : Int)] (w.drewN m) fun e w' => e = .returned (.int .u64 (x : Int)) ∧ ∃ n, w' = (w.drewN m).drewN n := fun m => word_is a A c j x _ rfl HX.out.symm _ (Kd.C_drewN HA.out _) hc ma
     have QB : ∀ m, Calls Tryz.prog 94 #[.slice B b.length d, .int .i64 (j : Int)] (w.drewN m) fun e w' => e = .returned (.int .u64 (y : Int)) ∧ ∃ n, w' = (w.drewN m).drewN n := fun m => word_is b B d j y _ rfl HY.out.symm _ (Kd.C_drewN HB.out _) hd mb
     have QA' := yk QA
     have QB' := yk QB
     clear QA QB
     go_wp2_with (go_at_call 94; first | (with_reducible refine (QA'.out _).mono ?_; rintro e w' ⟨rfl, n1, rfl⟩) | (with_reducible refine (QB'.out _).mono ?_; rintro e w' ⟨rfl, n2, rfl⟩))
     all_goals first
      | (go_ret
         exact ⟨ret_int (by first | (rw [cmp_lt WA.out HG.out (by have e1 := HX.out; have e2 := HY.out; omega)]) | (rw [cmp_gt WB.out HG.out (by have e1 := HX.out; have e2 := HY.out; omega)])), ⟨_, rfl⟩⟩)
      | (go_roundw
         case rel => exact ⟨j, rfl, by omega, ⟨⟨_, rfl⟩⟩, ⟨by have e1 := HX.out; have e2 := HY.out; have e3 := HG.out; have e4 := nv_drop_step a j; have e5 := nv_drop_step b j; omega⟩⟩
         case measure => simp [intOf])
theorem one_any (neg : Bool) (l : List Nat) (A : Option Addr) (n c : Nat) (ex : Int) (hn : l.length = n) (w : World) (hl : kU.C w A n l) (hc : n ≤ c) (wl : Wf l) (ln : n ≤ 1073741824) (le1 : -1099511627776 ≤ ex) (le2 : ex ≤ 1099511627776) :
 Calls Tryz.prog 44 #[.agg #[.bool neg, .slice A n c, .int .i64 ex]] w fun e w' => ∃ v, e = .returned v ∧ RDy w' w.heap.size v (sgn neg (nv l)) ex ∧ BL w w' := by
 have QF := yk (fun (m : World) (hm : BL w m) => form_any neg l A n c ex hn m (Kd.C_below hl hm) hc wl ln le1 le2)
 clear hl
 go_enter Tryz.func44, Tryz.ntmps44
 go_wp2_with (first
  | (go_at_call 46; go_must (refine (QF.out _ (below_alloc (below_alloc yr _) _)).mono ?_; rintro e w1 ⟨v, rfl, ⟨A2, n2, c2, rfl, hr⟩, hb⟩; have HR := yk hr; have HB := yk (below_then (below_alloc (below_alloc (Below.refl w.heap.size w) _) _) (below_alloc (below_alloc (Below.refl w.heap.size w) _) _).size hb); have hh := yb (blk_new _ _) hb; rw [size_alloc'] at hh; have HH := yk hh; clear hr hb hh))
  | ((with_reducible refine gate_store (p := 2) rfl ?_); go_must (refine sdy 2 (.tmp 9) rfl rfl rfl rfl rfl HH.out rfl ?_; intro wb HX HG)))
 refine bodyPost_ret (results_dyad rfl _ _ (w.heap.size + 1) _ rfl HX.out rfl) rfl ?_
 refine ⟨_, rfl, RDy.lower (b := w.heap.size + 2) (RDy.grown (w := w1) ?_ HG.out (by omega)) (by omega), HB.out.grown HG.out HB.out.size (fun k hk => by cases hk; omega)⟩
 have h := HR.out
 rw [size_alloc', size_alloc'] at h
 exact ⟨A2, n2, c2, rfl, h⟩
theorem below_of_alloc {w w1 : World} {o : Obj} (h : Below (w.alloc o).heap.size (w.alloc o) w1) : BL w w1 :=
 below_then (below_alloc yr _) (below_alloc yr _).size h
theorem below_of_drew {w w1 : World} {o : Obj} (h : Below (w.alloc o).drew.heap.size (w.alloc o).drew w1) : BL w w1 :=
 below_then (below_drew (below_alloc yr _)) (below_drew (below_alloc yr _)).size h
theorem top_any (v : Value) (z e : Int) (w : World) (h : CDy w v z e) (hl : (limbs (cman z)).length ≤ 1073741824) (le1 : -1099511627776 ≤ cexp z e) (le2 : cexp z e ≤ 1099511627776) :
 Calls Tryz.prog 43 #[v] w fun en w' => en = .returned (.int .i64 (cexp z e + bl (cman z) - 1)) ∧ BL w w' := by
 obtain ⟨A, n, c, rfl, hC, hn, hc⟩ := h
 have QL := yk (fun (m : World) (hm : BL w m) => len_any (limbs (cman z)) A c m (by rw [hn]; exact Kd.C_below hC hm) (by omega) (wf_limbs _) (by omega))
 rw [hn] at QL
 obtain ⟨T, hT⟩ : ∃ T, T = bl (cman z) := ⟨_, rfl⟩
 have hTb : T ≤ 68719476736 := by
  have := nv_lt (wf_limbs (cman z))
  rw [nv_limbs] at this
  have := bl_le_iff.2 this
  omega
 rw [nv_limbs, ← hT] at QL
 rw [← hT]
 obtain ⟨x, hx⟩ : ∃ x, x = cexp z e := ⟨_, rfl⟩
 rw [← hx] at le1 le2 ⊢
 have hw3 : IntKind.i64.wrap (IntKind.i64.wrap (x + T) - 1) = x + T - 1 := by rw [show IntKind.i64.wrap (x + T) = x + T from wrap_i64 (by omega) (by omega)]; exact wrap_i64 (by omega) (by omega)
 clear hC hT hx
 go_enter Tryz.func43, Tryz.ntmps43
 go_wp2
 go_region_with (go_at_call 90; refine (QL.out _ ?hB).mono ?_; (case hB => first | exact below_alloc yr _ | exact below_drew (below_alloc yr _) | exact pw_below_drewN (below_alloc yr _) _); rintro e w1 ⟨rfl, hb⟩; have HB : Aside0 (BL w w1) := ⟨(by first | exact below_of_alloc hb | exact below_of_drew hb)⟩; have hh : w1.heap[w.heap.size]? = some (.cells #[.bool (cneg z), .slice A n c, .int .i64 x] 25 (0, 0)) := (by first | exact yb (blk_new _ _) hb | exact yb (blk_drew (blk_new _ _)) hb | exact yb (blk_drewN (blk_new _ _) _) hb); have c2 : w1.cell? ⟨w.heap.size, 2, none⟩ = some (.int .i64 x) := (cell_of_row w1 _ 2 _ _ _ hh).trans rfl; clear hb hh)
 all_goals
  go_wp2
  go_ret
  exact ⟨ret_int (by first | rfl | exact hw3), HB.out⟩
theorem bl_limbs (m : Nat) : bl m ≤ 64 * (limbs m).length := by
 have := nv_lt (wf_limbs m)
 rw [nv_limbs] at this
 exact bl_le_iff.2 this
theorem zero_any (v : Value) (z e : Int) (w : World) (h : CDy w v z e) (hl : (limbs (cman z)).length ≤ 1073741824) :
 Calls Tryz.prog 42 #[v] w fun en w' => en = .returned (.bool (decide (z = 0))) ∧ BL w w' := by
 obtain ⟨A, n, c, rfl, hC, hn, hc⟩ := h
 have QN := yk (fun (m : World) (hm : BL w m) => norm_any (limbs (cman z)) A c m (by rw [hn]; exact Kd.C_below hC hm) (by omega) (wf_limbs _) (by omega))
 rw [hn, nv_limbs] at QN
 obtain ⟨n1, hn1⟩ : ∃ k, k = (limbs (cman z)).length := ⟨_, rfl⟩
 obtain ⟨x, hx⟩ : ∃ x, x = cexp z e := ⟨_, rfl⟩
 obtain ⟨b, hb⟩ : ∃ x, x = cneg z := ⟨_, rfl⟩
 have hz : ((n1 : Int) == 0) = decide (z = 0) := by
  rw [Bool.eq_iff_iff]
  simp only [beq_iff_eq, decide_eq_true_eq]
  rw [hn1]
  constructor
  · intro h
    exact cman_eq_zero.1 (limbs_eq_nil.1 (List.length_eq_zero_iff.1 (by omega)))
  · rintro rfl
    rw [cman_zero, limbs_zero]; rfl
 have HN := yk hn1.symm
 rw [← hx, ← hb]
 clear hC hn1 hn hx hb
 go_enter Tryz.func42, Tryz.ntmps42
 go_wp2_with (go_at_call 89; go_must (refine (QN.out _ (below_alloc yr _)).mono ?_; rintro e w1 ⟨v, rfl, ho, hb⟩; obtain ⟨A1, c1, rfl, hc1, hC1⟩ := Kd.R_reads ho; rw [HN.out]; have HB : Aside0 (BL w w1) := ⟨(by exact below_of_alloc hb)⟩; clear hb ho hC1 hc1))
 go_ret
 exact ⟨ret_bool (by first | rfl | exact hz), HB.out⟩
def sgnI (z : Int) : Int := if z = 0 then 0 else if z < 0 then -1 else 1
theorem sign_any' (v : Value) (z e : Int) (w : World) (h : CDy w v z e) (hl : (limbs (cman z)).length ≤ 1073741824) :
 Calls Tryz.prog 25 #[v] w fun en w' => en = .returned (.int .i64 (sgnI z)) ∧ BL w w' := by
 have QZ := yk (fun (m : World) (hm : BL w m) => zero_any v z e m (h.below hm) hl)
 obtain ⟨A, n, c, rfl, hC, hn, hc⟩ := h
 obtain ⟨x, hx⟩ : ∃ x, x = cexp z e := ⟨_, rfl⟩
 obtain ⟨b, hb⟩ : ∃ x, x = cneg z := ⟨_, rfl⟩
 rw [← hx, ← hb] at QZ
 rw [← hx, ← hb]
 obtain ⟨d, hd⟩ : ∃ d, d = decide (z = 0) := ⟨_, rfl⟩
 rw [← hd] at QZ
 have HS := yk (show sgnI z = if d then 0 else if b then -1 else 1 by
  rw [hd, hb]; unfold sgnI cneg
  by_cases h0 : z = 0
  · simp [h0]
  · simp [h0])
 clear hC hx hb hd
 cases d
 all_goals cases b
 all_goals
  go_enter Tryz.func25, Tryz.ntmps25
  go_wp2_with (go_at_call 42; go_must (refine (QZ.out _ (below_alloc yr _)).mono ?_; rintro e w1 ⟨rfl, hb⟩; have HB : Aside0 (BL w w1) := ⟨(by exact below_of_alloc hb)⟩; have hh : w1.heap[w.heap.size]? = some (.cells #[.bool _, .slice A n c, .int .i64 x] 25 (0, 0)) := (by exact yb (blk_new _ _) hb); have c0 := (cell_of_row w1 _ 0 _ _ _ hh).trans rfl; clear hb hh))
  go_ret
  exact ⟨ret_int (by rw [HS.out]; rfl), HB.out⟩
theorem same_any' (u v : Value) (y z e e' : Int) (w : World) (h : CDy w u y e) (h' : CDy w v z e') (hl : (limbs (cman y)).length ≤ 1073741824) (le : -1099511627776 ≤ cexp y e) (le2 : cexp y e ≤ 1099511627776) :
 Calls Tryz.prog 12 #[u, v] w fun en w' => en = .returned (.bool (decide (cneg y = cneg z ∧ cexp y e = cexp z e' ∧ cman y = cman z))) ∧ BL w w' := by
 obtain ⟨A, n, c, rfl, hC, hn, hc⟩ := h
 obtain ⟨A', n', c', rfl, hC', hn', hc'⟩ := h'
 obtain ⟨x, hx⟩ : ∃ x, x = cexp y e := ⟨_, rfl⟩
 obtain ⟨x', hx'⟩ : ∃ x, x = cexp z e' := ⟨_, rfl⟩
 obtain ⟨b, hb⟩ : ∃ x, x = cneg y := ⟨_, rfl⟩
 obtain ⟨b', hb'⟩ : ∃ x, x = cneg z := ⟨_, rfl⟩
 have QS := yk (fun (m : World) (hm : BL w m) => same_nat (limbs (cman y)) (limbs (cman z)) A A' c c' m (by rw [hn]; exact Kd.C_below hC hm) (by rw [hn']; exact Kd.C_below hC' hm) (by omega) (by omega) (by omega))
 rw [hn, hn'] at QS
 obtain ⟨s, hs⟩ : ∃ s, s = decide (limbs (cman y) = limbs (cman z)) := ⟨_, rfl⟩
 rw [← hs] at QS
 rw [← hx, ← hx', ← hb, ← hb']
 have HD := yk (show decide (b = b' ∧ x = x' ∧ cman y = cman z) = ((b == b') && ((x == x') && s)) by
  rw [hs, Bool.eq_iff_iff]
  simp only [decide_eq_true_eq, Bool.and_eq_true, beq_iff_eq]
  constructor
  · rintro ⟨h1, h2, h3⟩; exact ⟨h1, h2, by rw [h3]⟩
  · rintro ⟨h1, h2, h3⟩; exact ⟨h1, h2, limbs_inj h3⟩)
 clear hC hC' hx hx' hb hb' hs
 obtain ⟨p, hp⟩ : ∃ p, p = (b == b') := ⟨_, rfl⟩
 obtain ⟨q, hq⟩ : ∃ q, q = (x == x') := ⟨_, rfl⟩
 rw [← hp, ← hq] at HD
 have hp' := hp.symm
 have hq' := hq.symm
 clear hp hq
 cases p
 case false =>
  go_enter Tryz.func12, Tryz.ntmps12
  go_wp2
  go_ret
  exact ⟨ret_bool (by rw [HD.out]; rfl), below_alloc (below_alloc yr _) _⟩
 case true =>
  cases q
  case false =>
   go_enter Tryz.func12, Tryz.ntmps12
   go_wp2
   go_ret
   exact ⟨ret_bool (by rw [HD.out]; rfl), below_alloc (below_alloc yr _) _⟩
  case true =>
   go_enter Tryz.func12, Tryz.ntmps12
   go_wp2_with (go_at_call 38; go_must (refine (QS.out _ (below_alloc (below_alloc yr _) _)).mono ?_; rintro en w1 ⟨rfl, n1, rfl⟩))
   go_ret
   exact ⟨ret_bool (by rw [HD.out]; rfl), pw_below_drewN (below_alloc (below_alloc yr _) _) n1⟩
theorem get_ne {L : Array Bool} {i j : Nat} (h : i ≠ j) : (L.setIfInBounds i true).getD j false = L.getD j false := by
 simp [Array.getD_eq_getD_getElem?, Array.getElem?_setIfInBounds_ne h]
theorem get_eq {L : Array Bool} {i : Nat} (h : i < L.size) : (L.setIfInBounds i true).getD i false = true := by
 simp [Array.getD_eq_getD_getElem?, Array.getElem?_setIfInBounds_self_of_lt h]
theorem not_listed {L : Array Bool} {i : Nat} (h : L.getD i true = false) : L.getD i false = false := by
 by_cases hi : i < L.size
 · simp [Array.getD, hi] at h ⊢; exact h
 · simp [Array.getD, hi] at h
section
variable {P : Program} {o : Oper} {a : Act} {Q : Exit → Act → World → Prop} {K : Act → World → Prop}
end
structure Box (W0 W : World) (v5 v8 : Value) (st : Bool) : Prop where
 box : ∃ g cs, v5 = .pointer (some ⟨g, 0, none⟩) ∧ W0.heap.size ≤ g ∧ W.heap[g]? = some (.cells cs 25 (0, 0)) ∧ cs.size = 3 ∧ (st = true → v8 = .agg cs)
structure OO (W0 : World) (uu vv : Value) (y e z e' : Int) (L : Array Bool) (W : World) (v5 v6 v7 v8 v9 v10 : Value) : Prop where
 below : BL W0 W
 l0 : L.getD 0 false = true → v7 = uu
 l2 : L.getD 2 false = true → v9 = vv
 l1 : L.getD 1 false = true → RDy W W0.heap.size v8 y e
 l3 : L.getD 3 false = true → RDy W W0.heap.size v10 z e'
 l4 : L.getD 4 false = true → Box W0 W v5 v8 (L.getD 6 false)
 l5 : L.getD 5 false = true → Box W0 W v6 v10 (L.getD 7 false)
 ne : L.getD 4 false = true → L.getD 5 false = true → v5 ≠ v6
 o6 : L.getD 6 false = true → L.getD 1 false = true ∧ L.getD 4 false = true
 o7 : L.getD 7 false = true → L.getD 3 false = true ∧ L.getD 5 false = true
 sz : L.size = 8
variable {W0 W : World} {uu vv : Value} {y e z e' : Int} {L : Array Bool} {v5 v6 v7 v8 v9 v10 : Value}
open Go
section
variable {P : Program} {ops : Array Oper} {Q : Exit → Act → World → Prop}
def upd (v : Nat → Value) (k : Nat) (x : Value) : Nat → Value := fun n => if n = k then x else v n
theorem upd_eq (v : Nat → Value) (k : Nat) (x : Value) : upd v k x k = x := by simp [upd]
theorem upd_ne (v : Nat → Value) {k n : Nat} (x : Value) (h : n ≠ k) : upd v k x n = v n := by simp [upd, h]
end
def setAll : List Nat → Nat → (Nat → Value) → Array Value → Array Value
 | [], _, _, fr => fr
 | s :: r, k, v, fr => setAll r (k + 1) v (fr.setIfInBounds s (v k))
theorem setAll_self (fr : Array Value) : ∀ (slots : List Nat) (k : Nat) (v : Nat → Value), (∀ j s, slots[j]? = some s → v (k + j) = fr.getD s undef) → setAll slots k v fr = fr
 | [], _, _, _ => rfl
 | s :: r, k, v, h => by
   have h0 : v k = fr.getD s undef := h 0 s rfl
   have he : fr.setIfInBounds s (v k) = fr := by
    rw [h0]
    apply Array.ext_getElem?
    intro i
    rw [Array.getElem?_setIfInBounds]
    split
    · rename_i h1
      subst h1
      split
      · rename_i h2
        simp [Array.getD, h2]
      · rename_i h2
        rw [Array.getElem?_eq_none (by omega)]
    · rfl
   rw [setAll, he]
   refine setAll_self fr r (k + 1) v (fun j s' hj => ?_)
   have := h (j + 1) s' (by simpa using hj)
   rw [← this]; congr 1; omega
section
variable {P : Program} {ops : Array Oper} {Q : Exit → Act → World → Prop}
end
theorem yx {p : Prop} {j k : Nat} (h : p ∨ j = k) (hn : j ≠ k := by decide) : p := h.resolve_right hn
theorem yu {p : Prop} {v : Nat → Value} {k : Nat} {x : Value} : p → upd v k x k = x := fun _ => upd_eq v k x
theorem yo {α : Type} {a b : α} (h : some (some a) = some (some b)) : a = b := Option.some.inj (Option.some.inj h)
section
variable {P : Program} {ops : Array Oper} {Q : Exit → Act → World → Prop}
theorem wp_region_valsL {id : Nat} {w : World} (hm : P.follows .mixedOrders = true) (hac : Acyclic ops = true) (T : (Nat → Value) → Array Value) (v0 : Nat → Value) (F : Nat → Value → World → Prop) (J : (Nat → Prop) → World → Prop) (hJ : J (fun _ => False) w.drew)
 (hstep : ∀ k o, ops[k]? = some o → ∀ (v : Nat → Value) (W : World) (L : Nat → Prop), J L W → (∀ j, L j → F j (v j) W) → ¬ L k → (∀ e ∈ o.after, Region.binds .any e = true → L e.on) → (∀ j p, ops[j]? = some p → L j → ∀ e ∈ p.after, Region.binds .any e = true → L e.on) →
   ∀ K : Act → World → Prop, Shut (∀ x W', J (fun j => L j ∨ j = k) W' → (∀ j, L j → F j (v j) W → F j (v j) W') → F k x W' → K { tmps := T (upd v k x), defers := [] } W') →
    if Region.wanted o (yielded ops (T v)) = true then Oper.wp P o { tmps := T v, defers := [] } W K Q else K (Act.put { tmps := T v, defers := [] } o.dst undef) W)
 (hend : ∀ v W L, (∀ j, j < ops.size → L j) → J L W → (∀ j, j < ops.size → F j (v j) W) → Q .normal { tmps := T v, defers := [] } W) : (Code.region id ops true).wp P Q { tmps := T v0, defers := [] } w := by
 refine wp_region_inv hm hac (I := fun L a W => L.size = ops.size ∧ (∃ L' : Nat → Prop, (∀ j, L' j ↔ L.getD j false = true) ∧ J L' W ∧ (∀ j p, ops[j]? = some p → L' j → ∀ e ∈ p.after, Region.binds .any e = true → L' e.on)) ∧ ∃ v, a = { tmps := T v, defers := [] } ∧ ∀ j, L.getD j false = true → F j (v j) W) ?_ ?_ ?_
 · refine ⟨by simp, ⟨fun _ => False, ?_, hJ, fun _ _ _ h => h.elim⟩, v0, rfl, ?_⟩
   · intro j
     by_cases hj2 : j < ops.size
     · simp [Array.getD, hj2]
     · simp [Array.getD, hj2]
   · intro j hj
     by_cases hj2 : j < ops.size
     · simp [Array.getD, hj2] at hj
     · simp [Array.getD, hj2] at hj
 · intro k o ho L a W hs hl haft hI K hK
   obtain ⟨hsz, ⟨L', hL', hJW, hcl⟩, v, rfl, hF⟩ := hI
   have hk : k < ops.size := by
    refine Classical.byContradiction fun hc => ?_
    rw [Array.getElem?_eq_none (by omega)] at ho
    cases ho
   have hafter : ∀ e ∈ o.after, Region.binds .any e = true → L' e.on := by
    intro e he hb
    rw [Array.all_eq_true'] at haft
    have := haft e he
    rw [hb] at this
    rw [hL']
    simpa using this
   refine hstep k o ho v W L' hJW (fun j h => hF j ((hL' j).1 h)) ?_ hafter hcl K ?_
   · have := not_listed hl
     rw [hL', this]; simp
   · intro x W' hJ' hmono hx
     refine hK.out _ _ ⟨by simp [hsz], ⟨_, ?_, hJ', ?_⟩, upd v k x, rfl, ?_⟩
     · intro j
       by_cases hjk : j = k
       · subst hjk
         rw [get_eq (by omega)]; simp
       · rw [get_ne (Ne.symm hjk), ← hL']; simp [hjk]
     · intro j p hp hLj e he hb
       rcases hLj with h | h
       · exact .inl (hcl j p hp h e he hb)
       · subst h
         rw [ho] at hp
         cases hp
         exact .inl (hafter e he hb)
     · intro j hj
       by_cases hjk : j = k
       · subst hjk
         rw [upd_eq]; exact hx
       · rw [get_ne (Ne.symm hjk)] at hj
         rw [upd_ne v x hjk]
         exact hmono j ((hL' j).2 hj) (hF j hj)
 · intro L a W hall hI
   obtain ⟨hsz, ⟨L', hL', hJW, _⟩, v, rfl, hF⟩ := hI
   exact hend v W L' (fun j hj => (hL' j).2 (hall j hj)) hJW (fun j hj => hF j (hall j hj))
theorem wp_region_slotsL {id : Nat} {w : World} {fr : Array Value} (slots : List Nat) (hm : P.follows .mixedOrders = true) (hac : Acyclic ops = true) (F : Nat → Value → World → Prop) (J : (Nat → Prop) → World → Prop) (hJ : J (fun _ => False) w.drew)
 (hstep : ∀ k o, ops[k]? = some o → ∀ (v : Nat → Value) (W : World) (L : Nat → Prop), J L W → (∀ j, L j → F j (v j) W) → ¬ L k → (∀ e ∈ o.after, Region.binds .any e = true → L e.on) → (∀ j p, ops[j]? = some p → L j → ∀ e ∈ p.after, Region.binds .any e = true → L e.on) →
   ∀ K : Act → World → Prop, Shut (∀ x W', J (fun j => L j ∨ j = k) W' → (∀ j, L j → F j (v j) W → F j (v j) W') → F k x W' → K { tmps := setAll slots 0 (upd v k x) fr, defers := [] } W') →
    if Region.wanted o (yielded ops (setAll slots 0 v fr)) = true then Oper.wp P o { tmps := setAll slots 0 v fr, defers := [] } W K Q else K (Act.put { tmps := setAll slots 0 v fr, defers := [] } o.dst undef) W)
 (hend : ∀ v W L, (∀ j, j < ops.size → L j) → J L W → (∀ j, j < ops.size → F j (v j) W) → Q .normal { tmps := setAll slots 0 v fr, defers := [] } W) : (Code.region id ops true).wp P Q { tmps := fr, defers := [] } w := by
 have h0 := setAll_self fr slots 0 (fun k => fr.getD (slots.getD k 0) undef) (fun j s hj => by simp [List.getD_eq_getElem?_getD, hj])
 have := wp_region_valsL (id := id) hm hac (T := fun v => setAll slots 0 v fr) (v0 := fun k => fr.getD (slots.getD k 0) undef) F J hJ hstep hend
 rw [h0] at this
 exact this
end
end Go.Proofs.YtkdicconchobfaaGreatDoor

namespace Go.Proofs
open Go.Shelf
def Tryz.lays134_ren : Go.Shelf.Ren := ⟨fun | 134 => 149 | 129 => 140 | n => n, fun | 53 => 64 | 3 => 3 | 4 => 4 | 46 => 85 | 5 => 5 | 9 => 9 | n => n, fun | n => n⟩
theorem Tryz.lays134 : Go.Proofs.Lays.n134 Tryz.prog Tryz.lays134_ren := {
  mixed := by kernel_rfl
  f129 := Tryz.func140.trans (congrArg some (by kernel_rfl))
  f134 := Tryz.func149.trans (congrArg some (by kernel_rfl))
  t3 := Tryz.underlying3
  a3 := Tryz.isAgg3
  z3 := Tryz.sizeOf3
  v3 := Tryz.zeroValue3
  t4 := Tryz.underlying4
  a4 := Tryz.isAgg4
  z4 := Tryz.sizeOf4
  v4 := Tryz.zeroValue4
  t5 := Tryz.underlying5
  a5 := Tryz.isAgg5
  z5 := Tryz.sizeOf5
  v5 := Tryz.zeroValue5
  t9 := Tryz.underlying9
  a9 := Tryz.isAgg9
  z9 := Tryz.sizeOf9
  v9 := Tryz.zeroValue9
  t46 := Tryz.underlying85
  a46 := Tryz.isAgg85
  z46 := Tryz.sizeOf85
  v46 := Tryz.zeroValue85
  t53 := Tryz.underlying64
  a53 := Tryz.isAgg64
  z53 := Tryz.sizeOf64
  v53 := Tryz.zeroValue64 }
theorem Tryz.bits_LeadingZeros64 (x : Int) (w : World) (h0 : 0 ≤ x) (h1 : x ≤ 18446744073709551615) :
    Calls Tryz.prog 149 #[.int .u64 x] w fun e w' => e = .returned (.int .i64 (64 - (Lib.bitLen x.toNat : Int))) ∧ w' = w := Any.bits_LeadingZeros64 Tryz.lays134 x w h0 h1
def Tryz.lays129_ren : Go.Shelf.Ren := ⟨fun | 129 => 140 | n => n, fun | 53 => 64 | 3 => 3 | 4 => 4 | 46 => 85 | 5 => 5 | 9 => 9 | n => n, fun | n => n⟩
theorem Tryz.lays129 : Go.Proofs.Lays.n129 Tryz.prog Tryz.lays129_ren := {
  mixed := by kernel_rfl
  f129 := Tryz.func140.trans (congrArg some (by kernel_rfl))
  t3 := Tryz.underlying3
  a3 := Tryz.isAgg3
  z3 := Tryz.sizeOf3
  v3 := Tryz.zeroValue3
  t4 := Tryz.underlying4
  a4 := Tryz.isAgg4
  z4 := Tryz.sizeOf4
  v4 := Tryz.zeroValue4
  t5 := Tryz.underlying5
  a5 := Tryz.isAgg5
  z5 := Tryz.sizeOf5
  v5 := Tryz.zeroValue5
  t9 := Tryz.underlying9
  a9 := Tryz.isAgg9
  z9 := Tryz.sizeOf9
  v9 := Tryz.zeroValue9
  t46 := Tryz.underlying85
  a46 := Tryz.isAgg85
  z46 := Tryz.sizeOf85
  v46 := Tryz.zeroValue85
  t53 := Tryz.underlying64
  a53 := Tryz.isAgg64
  z53 := Tryz.sizeOf64
  v53 := Tryz.zeroValue64 }
theorem Tryz.bits_Len64 (x : Int) (w : World) (h0 : 0 ≤ x) (h1 : x ≤ 18446744073709551615) :
    Calls Tryz.prog 140 #[.int .u64 x] w fun e w' => e = .returned (.int .i64 (Lib.bitLen x.toNat)) ∧ w' = w := Any.bits_Len64 Tryz.lays129 x w h0 h1
def Tryz.lays264_ren : Go.Shelf.Ren := ⟨fun | 264 => 151 | n => n, fun | 53 => 64 | 46 => 85 | n => n, fun | n => n⟩
theorem Tryz.lays264 : Go.Proofs.Lays.n264 Tryz.prog Tryz.lays264_ren := {
  mixed := by kernel_rfl
  f264 := Tryz.func151.trans (congrArg some (by kernel_rfl))
  t46 := Tryz.underlying85
  a46 := Tryz.isAgg85
  z46 := Tryz.sizeOf85
  v46 := Tryz.zeroValue85
  t53 := Tryz.underlying64
  a53 := Tryz.isAgg64
  z53 := Tryz.sizeOf64
  v53 := Tryz.zeroValue64 }
open Go.RowKit Go.Lib in
theorem Tryz.bits_Mul64 (x y : Nat) (hx : x < 18446744073709551616) (hy : y < 18446744073709551616) (w : World) :
    Calls Tryz.prog 151 #[.int .u64 x, .int .u64 y] w fun e w' => e = .returned (.tuple #[.int .u64 ((x * y / 18446744073709551616 : Nat) : Int), .int .u64 ((x * y % 18446744073709551616 : Nat) : Int)]) ∧ w' = w := Any.bits_Mul64 Tryz.lays264 x y hx hy w
def Tryz.lays25_ren : Go.Shelf.Ren := ⟨fun | 25 => 134 | n => n, fun | 22 => 64 | n => n, fun | n => n⟩
theorem Tryz.lays25 : Go.Proofs.Lays7.n25 Tryz.prog Tryz.lays25_ren := {
  mixed := by kernel_rfl
  f25 := Tryz.func134.trans (congrArg some (by kernel_rfl))
  t22 := Tryz.underlying64
  a22 := Tryz.isAgg64
  z22 := Tryz.sizeOf64
  v22 := Tryz.zeroValue64
  i22 := by kernel_rfl }
def Tryz.lays26_ren : Go.Shelf.Ren := ⟨fun | 26 => 135 | n => n, fun | 22 => 64 | n => n, fun | n => n⟩
theorem Tryz.lays26 : Go.Proofs.Lays7.n26 Tryz.prog Tryz.lays26_ren := {
  mixed := by kernel_rfl
  f26 := Tryz.func135.trans (congrArg some (by kernel_rfl))
  t22 := Tryz.underlying64
  a22 := Tryz.isAgg64
  z22 := Tryz.sizeOf64
  v22 := Tryz.zeroValue64
  i22 := by kernel_rfl }
def Tryz.lays29_ren : Go.Shelf.Ren := ⟨fun | 29 => 148 | n => n, fun | 22 => 64 | 3 => 3 | 4 => 4 | 25 => 85 | 54 => 131 | 0 => 0 | 5 => 5 | n => n, fun | 1 => 0 | n => n⟩
theorem Tryz.lays29 : Go.Proofs.Lays7.n29 Tryz.prog Tryz.lays29_ren := {
  mixed := by kernel_rfl
  f29 := Tryz.func148.trans (congrArg some (by kernel_rfl))
  t0 := Tryz.underlying0
  a0 := Tryz.isAgg0
  z0 := Tryz.sizeOf0
  v0 := Tryz.zeroValue0
  i0 := by kernel_rfl
  t3 := Tryz.underlying3
  a3 := Tryz.isAgg3
  z3 := Tryz.sizeOf3
  v3 := Tryz.zeroValue3
  i3 := by kernel_rfl
  t4 := Tryz.underlying4
  a4 := Tryz.isAgg4
  z4 := Tryz.sizeOf4
  v4 := Tryz.zeroValue4
  i4 := by kernel_rfl
  t5 := Tryz.underlying5
  a5 := Tryz.isAgg5
  z5 := Tryz.sizeOf5
  v5 := Tryz.zeroValue5
  i5 := by kernel_rfl
  t22 := Tryz.underlying64
  a22 := Tryz.isAgg64
  z22 := Tryz.sizeOf64
  v22 := Tryz.zeroValue64
  i22 := by kernel_rfl
  t25 := Tryz.underlying85
  a25 := Tryz.isAgg85
  z25 := Tryz.sizeOf85
  v25 := Tryz.zeroValue85
  i25 := by kernel_rfl
  t54 := Tryz.underlying131
  a54 := Tryz.isAgg131
  z54 := Tryz.sizeOf131
  g1 := by kernel_rfl }
open Go.RowKit Go.Lib in
theorem Tryz.bits_Add64 (x y c : Nat) (hc : c ≤ 1) (w : World) : (callFunc 134 #[.int .u64 x, .int .u64 y, .int .u64 c]).run Tryz.prog w =
    .ok (.value (.tuple #[.int .u64 (((x + y + c) % 18446744073709551616 : Nat) : Int), .int .u64 (((x + y + c) / 18446744073709551616 : Nat) : Int)])) w := Any7.bits_Add64 Tryz.lays25 x y c hc w
open Go.RowKit Go.Lib in
theorem Tryz.bits_Sub64 (x y b : Nat) (hb : b ≤ 1) (w : World) : (callFunc 135 #[.int .u64 x, .int .u64 y, .int .u64 b]).run Tryz.prog w =
    .ok (.value (.tuple #[.int .u64 (((x + 18446744073709551616 - y - b) % 18446744073709551616 : Nat) : Int), .int .u64 ((if x < y + b then 1 else 0 : Nat) : Int)])) w := Any7.bits_Sub64 Tryz.lays26 x y b hb w
open Go.RowKit Go.Lib in
theorem Tryz.bits_TrailingZeros64 (x : Nat) (hx : x < 18446744073709551616) (w : World) (hT : x ≠ 0 → TabAt 0 Lib.deBruijn64tab w) :
    Calls Tryz.prog 148 #[.int .u64 x] w fun e w' => e = .returned (.int .i64 (Lib.ctz 64 x)) ∧ w' = w := Any7.bits_TrailingZeros64 Tryz.lays29 x hx w hT
end Go.Proofs

namespace Go.Proofs.YtkdicconchobfaaGreatDoor
open Go.RowKit Go.Proofs.YtkdicconchobfaaGreatDoorW.PrintWords Limb
set_option linter.unusedVariables false
set_option linter.unusedSimpArgs false
theorem wd_limbs (n i : Nat) : wd (limbs n) i = n / 2 ^ (64 * i) % 2 ^ 64 := by rw [wd_eq (wf_limbs n), nv_limbs]
theorem limbs_is_take {l : List Nat} (h : Wf l) : l.take (limbs (nv l)).length = limbs (nv l) := by
 have hle := limbs_nv_len h
 apply List.ext_getElem?
 intro i
 rcases Nat.lt_or_ge i (limbs (nv l)).length with hi | hi
 · have e1 := wd_limbs (nv l) i
   have e2 := wd_eq h i
   rw [← e2] at e1
   unfold wd at e1
   rw [List.getElem?_take_of_lt hi]
   rw [List.getElem?_eq_getElem hi, List.getElem?_eq_getElem (show i < l.length by omega)] at e1 ⊢
   simpa using e1.symm
 · rw [List.getElem?_eq_none hi, List.getElem?_eq_none (by rw [List.length_take]; omega)]
theorem C_trim {w : World} {A : Option Addr} {l : List Nat} (h : kU.C w A l.length l) (wl : Wf l) : kU.C w A (limbs (nv l)).length (limbs (nv l)) := by
 have := C_take h (limbs (nv l)).length (limbs_nv_len wl)
 rwa [limbs_is_take wl] at this
theorem sliced_full (A : Option Addr) (k s : Nat) : sliced A 0 k k s = .slice A k k := by
 unfold sliced
 rw [Nat.sub_zero, Nat.zero_mul]
 split
 · rfl
 · cases A with
   | none => rfl
   | some ad => rw [Option.map_some, show ad.add 0 = ad by unfold Addr.add; split <;> simp_all]
theorem run_full (n : Nat) (A : Option Addr) (c k : Nat) (hn : n ≤ c) (hk : k ≤ n) : ∀ W : World, (Instr.slice 22 (.slice A n c) none (some (.int .i64 (k : Int))) (some (.int .i64 (k : Int)))).run Tryz.prog W = .ok (.slice A k k) W := by
 obtain ⟨i, hi, he⟩ := Option.map_eq_some_iff.1 info_word
 simp only [Prod.mk.injEq] at he
 intro W
 have hu : Tryz.prog.underlying 22 = some (.slice (Tryz.prog.elem 22)) := by kernel_rfl
 rw [run_slice_hm W 22 A n c hu .i64 .i64 k k (by omega) (by omega) (by omega)]
 have hs : (sizeOf (Tryz.prog.elem 22)).run Tryz.prog W = .ok 1 W := by
  rw [show Tryz.prog.elem 22 = 64 by kernel_rfl]
  exact Tryz.sizeOf64 W
 rw [hs]
 show Result.ok (sliced A 0 ((k : Int)).toNat ((k : Int)).toNat 1) W = _
 rw [Int.toNat_natCast, sliced_full]
theorem trim_any (l : List Nat) (A : Option Addr) (c : Nat) (w : World) (hr : kU.C w A l.length l) (hc : l.length ≤ c) (hw : Wf l) (hl : l.length ≤ 4294967296) :
 Calls Tryz.prog 109 #[.slice A l.length c] w fun e w' => e = .returned (.slice A (limbs (nv l)).length (limbs (nv l)).length) ∧ ∃ m, w' = w.drewN m := by
 have HR := yk hr
 have HW := yk hw
 clear hr hw
 go_enter Tryz.func109, Tryz.ntmps109
 go_wp2
 go_loopw [3] (fun i wr => ∃ k : Nat, i = .int .i64 k ∧ k ≤ l.length ∧ Aside0 (∃ n, wr = w.drewN n) ∧ Aside0 (∀ j x, k ≤ j → l[j]? = some x → x = 0)) (fun i _ => (intOf i).toNat)
 case atStart => exact ⟨l.length, rfl, Nat.le_refl _, ⟨⟨0, rfl⟩⟩, ⟨fun j x hj hx => by rw [List.getElem?_eq_none hj] at hx; cases hx⟩⟩
 case round =>
  obtain ⟨k, rfl, hk, HWR, HG⟩ := hrel
  obtain ⟨nw, rfl⟩ := HWR.out
  clear HWR
  have hkc : k ≤ c := by omega
  have HBB := yk (pw_below_drewN (Below.refl w.heap.size w) nw)
  have hsl := run_full l.length A c k hc hk
  by_cases hk0 : k = 0
  · have HK := yk (limbs_take HW.out hk HG.out (fun h => by omega))
    have HKL := yk (show (limbs (nv l)).length = k by rw [HK.out, List.length_take]; omega)
    have hkn : k ≤ 0 := by omega
    have hkd2 : decide (0 < k) = false := decide_eq_false (by omega)
    have hkd : decide (0 < (k : Int)) = false := decide_eq_false (by omega)
    clear hk0
    go_wp2
    go_ret
    exact ⟨by rw [HKL.out]; rfl, ⟨nw, rfl⟩⟩
  · have hkd : decide (0 < (k : Int)) = true := decide_eq_true (by omega)
    have hkp : 0 < k := by omega
    obtain ⟨ad, x, rfl, hx0, hcell⟩ := at_word HR.out rfl (k - 1) (by omega)
    have hx := yk hx0
    have e1 : IntKind.i64.wrap ((k : Int) - 1) = (k : Int) - 1 := by unfold IntKind.wrap; simp [IntKind.bits, IntKind.signed]; omega
    have e2 : ((k : Int) - 1).toNat = k - 1 := by omega
    have e3 : 0 ≤ (k : Int) - 1 := by omega
    have e4 : (k : Int) - 1 < l.length := by omega
    clear hx0 hk0
    by_cases hz : x = 0
    · subst hz
      clear hsl
      go_wp2
      go_roundw
      case rel =>
       refine ⟨k - 1, by rw [show ((k - 1 : Nat) : Int) = (k : Int) - 1 by omega], by omega, ⟨⟨nw, rfl⟩⟩, ⟨fun j y hj hy => ?_⟩⟩
       by_cases hjk : j = k - 1
       · subst hjk
         have := hx.out
         rw [hy] at this
         exact Option.some.inj this
       · exact HG.out j y (by omega) hy
      case measure => simp [intOf]; omega
    · have HK := yk (limbs_take HW.out hk HG.out (fun _ => ⟨x, hx.out, hz⟩))
      have HKL := yk (show (limbs (nv l)).length = k by rw [HK.out, List.length_take]; omega)
      have hxz : ((x : Int) == 0) = false := by simp; exact hz
      go_wp2
      go_ret
      exact ⟨by rw [HKL.out]; rfl, ⟨nw, rfl⟩⟩
def PL (w : World) (base : Nat) (v : Value) (l : List Nat) : Prop :=
 ∃ A n c c' l', v = .slice A n c ∧ l.length = n ∧ n ≤ c ∧ l'.take n = l ∧ kU.R 64 w base (fun _ => True) (.slice A l'.length c') l'
theorem PL.c {w : World} {base : Nat} {v : Value} {l : List Nat} (h : PL w base v l) : ∃ A c, v = .slice A l.length c ∧ l.length ≤ c ∧ kU.C w A l.length l := by
 obtain ⟨A, n, c, c', l', rfl, rfl, hc, ht, hr⟩ := h
 obtain ⟨A', c2, he, _, hC⟩ := Kd.R_reads hr
 injection he with h1 h2 h3
 subst h1
 have hle : l.length ≤ l'.length := by rw [← ht, List.length_take]; omega
 have := C_take hC l.length hle
 rw [ht] at this
 exact ⟨A, c, rfl, hc, this⟩
theorem PL.below {w w1 : World} {base : Nat} {v : Value} {l : List Nat} (h : PL w base v l) (hb : BL w w1) : PL w1 base v l := by
 obtain ⟨A, n, c, c', l', h1, h2, h3, h4, hr⟩ := h
 exact ⟨A, n, c, c', l', h1, h2, h3, h4, Kd.R_below hr hb⟩
theorem PL.lower {w : World} {b b' : Nat} {v : Value} {l : List Nat} (h : PL w b v l) (hb : b' ≤ b) : PL w b' v l := by
 obtain ⟨A, n, c, c', l', h1, h2, h3, h4, hr⟩ := h
 exact ⟨A, n, c, c', l', h1, h2, h3, h4, Kd.R_lower hr hb⟩
theorem PL.nil (w : World) (base : Nat) : PL w base (.slice none 0 0) [] := ⟨none, 0, 0, 0, [], rfl, rfl, Nat.le_refl _, rfl, Kd.R_nil _ _ _ _ _⟩
theorem PL.trim {w : World} {base : Nat} {A : Option Addr} {n c : Nat} {l : List Nat} (h : kU.R 64 w base (fun _ => True) (.slice A n c) l) (wl : Wf l) : PL w base (.slice A (limbs (nv l)).length (limbs (nv l)).length) (limbs (nv l)) := by
 obtain ⟨A', c2, he, _, hC⟩ := Kd.R_reads h
 injection he with h1 h2 h3
 subst h1 h2 h3
 exact ⟨A, _, _, c, l, rfl, rfl, Nat.le_refl _, limbs_is_take wl, h⟩
theorem PL.of_R {w : World} {base : Nat} {v : Value} {l : List Nat} (h : kU.R 64 w base (fun _ => True) v l) : PL w base v l := by
 obtain ⟨A, c, rfl, hc, _⟩ := Kd.R_reads h
 exact ⟨A, _, c, c, l, rfl, rfl, hc, List.take_length, h⟩
theorem PL.grown {w w1 : World} {b g : Nat} {v : Value} {l : List Nat} (h : PL w b v l) (hg : w.grownBy w1 (some g)) (hgb : g < b) : PL w1 b v l := by
 obtain ⟨A, n, c, c', l', h1, h2, h3, h4, hr⟩ := h
 refine ⟨A, n, c, c', l', h1, h2, h3, h4, Kd.R_mono (Kd.R_grown (Kd.R_bound hr) hg ?_) (fun _ _ => trivial)⟩
 rintro k ⟨_, hk, _⟩ he
 cases he
 omega
theorem row_one (w : World) (x : Nat) : kU.R 64 (w.alloc (.cells #[.int .u64 (x : Int)] 64)) w.heap.size (fun _ => True) (.slice (some ⟨w.heap.size, 0, none⟩) 1 1) [x] :=
 Kd.R_of_own (enc := fun n : Nat => Value.int .u64 (n : Int)) (xs := [x]) (World.ownsRow_lit (base := w.heap.size) (e := 64) (size := 1) w #[.int .u64 (x : Int)] 1 (Nat.le_refl _) (by decide) (by simp)) (fun _ _ => trivial)
theorem pof_any (x : Nat) (hx : x < 18446744073709551616) (w : World) :
 Calls Tryz.prog 110 #[.int .u64 (x : Int)] w fun e w' => ∃ v, e = .returned v ∧ PL w' w.heap.size v (limbs x) ∧ BL w w' := by
 by_cases h0 : x = 0
 · subst h0
   go_enter Tryz.func110, Tryz.ntmps110
   go_wp2
   go_ret
   exact ⟨_, rfl, by rw [limbs_zero]; exact PL.nil _ _, Below.refl _ _⟩
 · have h1 : ((x : Int) == 0) = false := by simp; exact h0
   have HL := yk (limbs_one h0 hx)
   go_enter Tryz.func110, Tryz.ntmps110
   go_wp2
   go_ret
   rw [HL.out]
   exact ⟨_, rfl, PL.of_R (row_one w x), below_alloc yr _⟩
theorem bitLenAux_bl : ∀ (f x : Nat), x < 2 ^ f → Lib.bitLenAux f x = bl x
 | 0, x, h => by
   have : x = 0 := by omega
   subst this
   rw [bl_zero]; rfl
 | f + 1, x, h => by
   unfold Lib.bitLenAux
   split
   · rename_i h0; subst h0; rw [bl_zero]
   · rename_i h0
     rw [bitLenAux_bl f (x / 2) (by rw [Nat.pow_succ] at h; omega), bl_half (n := x) (by omega)]
     omega
theorem bitLen_bl {x : Nat} (h : x < 18446744073709551616) : Lib.bitLen x = bl x := bitLenAux_bl 64 x h
theorem ctzFrom_tz : ∀ (f x : Nat), 0 < x → x < 2 ^ f → Lib.ctzFrom f x = tz x
 | 0, x, h0, h => by omega
 | f + 1, x, h0, h => by
   unfold Lib.ctzFrom
   split
   · rename_i h1; rw [tz_odd h1]
   · rename_i h1
     rw [ctzFrom_tz f (x / 2) (by omega) (by rw [Nat.pow_succ] at h; omega), tz_even (n := x) (by omega) (by omega)]
     omega
theorem ctz_tz {x : Nat} (h0 : x ≠ 0) (h : x < 18446744073709551616) : Lib.ctz 64 x = tz x := by
 unfold Lib.ctz
 rw [if_neg h0, ctzFrom_tz 64 x (by omega) h]
theorem plen_any (l : List Nat) (A : Option Addr) (c : Nat) (w : World) (hr : kU.C w A l.length l) (hc : l.length ≤ c) (hw : Wf l) (hl : l.length ≤ 1073741824) :
 Calls Tryz.prog 116 #[.slice A l.length c] w fun e w' => e = .returned (.int .i64 (bl (nv l) : Int)) ∧ ∃ m, w' = w.drewN m := by
 have QT := yk (fun (m : World) (h : kU.C m A l.length l) => trim_any l A c m h hc hw (by omega))
 have HR := yk hr
 have HC := yk (C_trim hr hw)
 have hk := Nat.le_trans (limbs_nv_len hw) hl
 obtain ⟨N, hN⟩ : ∃ N, N = nv l := ⟨_, rfl⟩
 rw [← hN] at QT HC hk ⊢
 clear hr hw hl hN
 by_cases h0 : (limbs N).length = 0
 · have hN0 : N = 0 := limbs_eq_nil.1 (List.length_eq_zero_iff.1 h0)
   subst hN0
   have HB := yk bl_zero
   rw [h0] at QT
   go_enter Tryz.func116, Tryz.ntmps116
   go_wp2_with (go_at_call 109; refine (QT.out _ HR.out).mono ?_; rintro e w' ⟨rfl, n, rfl⟩)
   go_ret
   exact ⟨by rw [HB.out]; rfl, ⟨_, rfl⟩⟩
 · obtain ⟨k, hk2⟩ : ∃ k, (limbs N).length = k + 1 := ⟨(limbs N).length - 1, by omega⟩
   obtain ⟨ad, x, rfl, hx, hcell⟩ := at_word HC.out rfl k (by omega)
   have hx0 : x ≠ 0 := limbs_last N (by rw [List.getLast?_eq_getElem?, hk2]; exact hx)
   have hx64 : x < 18446744073709551616 := (wf_limbs N).get hx
   have HB := yk (show bl N = 64 * k + bl x by
    have := bl_words (wf_limbs N) (x := x) (by rw [List.getLast?_eq_getElem?, hk2]; exact hx) hx0
    rw [nv_limbs, hk2] at this
    exact this)
   have QL := yk (fun (m : World) => (by have h := Tryz.bits_Len64 (x : Int) m (by omega) (by omega); rw [Int.toNat_natCast, bitLen_bl hx64] at h; exact h : Calls Tryz.prog 140 #[.int .u64 (x : Int)] m fun e w' => e = .returned (.int .i64 (bl x : Int)) ∧ w' = m))
   have hbl : bl x ≤ 64 := bl_le_iff.2 hx64
   rw [hk2] at QT
   clear hx h0 HC
   have h1 : (((k + 1 : Nat) : Int) == 0) = false := by simp; omega
   have e1 : IntKind.i64.wrap (((k + 1 : Nat) : Int) - 1) = (k : Int) := by unfold IntKind.wrap; simp [IntKind.bits, IntKind.signed]; omega
   have e2 : wrap64 (64 * (k : Int)) = ((64 * k : Nat) : Int) := by unfold wrap64; omega
   have e3 : wrap64 (((64 * k : Nat) : Int) + (bl x : Int)) = ((64 * k + bl x : Nat) : Int) := by unfold wrap64; omega
   go_enter Tryz.func116, Tryz.ntmps116
   go_wp2_with (first
    | (go_at_call 109; refine (QT.out _ HR.out).mono ?_; rintro e w' ⟨rfl, n, rfl⟩)
    | (go_at_call 140; refine (QL.out _).mono ?_; rintro e w' ⟨rfl, rfl⟩))
   go_ret
   exact ⟨by rw [HB.out]; rfl, ⟨_, rfl⟩⟩
theorem tab_below {g : Nat} {tab : List Nat} {w m : World} (h : TabAt g tab w) (hb : BL w m) : TabAt g tab m := fun j hj => pw_cell_below hb (h j hj)
theorem plow_any (l : List Nat) (A : Option Addr) (c : Nat) (w : World) (hr : kU.C w A l.length l) (hc : l.length ≤ c) (hw : Wf l) (hl : l.length ≤ 1073741824) (hT : TabAt 0 Lib.deBruijn64tab w) :
 Calls Tryz.prog 132 #[.slice A l.length c] w fun e w' => e = .returned (.int .i64 (tz (nv l) : Int)) ∧ ∃ m, w' = w.drewN m := by
 have HR := yk hr
 have HW := yk hw
 have HT := yk hT
 clear hr hw hT
 go_enter Tryz.func132, Tryz.ntmps132
 go_wp2
 go_loopw [7] (fun i wr => ∃ k : Nat, i = .int .i64 k ∧ k ≤ l.length ∧ Aside0 (∃ n, wr = w.drewN n) ∧ Aside0 (nv (l.take k) = 0)) (fun i _ => l.length - (intOf i).toNat)
 case atStart => exact ⟨0, rfl, Nat.zero_le _, ⟨⟨0, rfl⟩⟩, ⟨by simp [nv]⟩⟩
 case round =>
  obtain ⟨k, rfl, hk, HWR, HG⟩ := hrel
  obtain ⟨nw, rfl⟩ := HWR.out
  clear HWR
  by_cases hlt : k < l.length
  · obtain ⟨ad, x, rfl, hx0, hcell⟩ := at_word HR.out rfl k hlt
    have hx := yk (wd_of hx0)
    have hx64 : x < 18446744073709551616 := HW.out.get hx0
    clear hx0
    by_cases hz : x = 0
    · subst hz
      go_wp2
      go_roundw
      case rel => exact ⟨k + 1, by go_num, by omega, ⟨⟨nw, rfl⟩⟩, ⟨by rw [nv_take_succ, HG.out, hx.out]; rfl⟩⟩
      case measure => simp [intOf]; omega
    · have hxz : ((x : Int) != 0) = true := by simp; exact hz
      have QZ := yk (fun (m : World) (h : TabAt 0 Lib.deBruijn64tab m) => (by have q := Tryz.bits_TrailingZeros64 x hx64 m (fun _ => h); rw [ctz_tz hz hx64] at q; exact q : Calls Tryz.prog 148 #[.int .u64 (x : Int)] m fun e w' => e = .returned (.int .i64 (tz x : Int)) ∧ w' = m))
      have htz : tz x < 64 := Nat.lt_of_lt_of_le (tz_lt_bl hz) (bl_le_iff.2 hx64)
      have HV := yk (show tz (nv l) = 64 * k + tz x by
       have h1 := nv_split l k
       rw [HG.out, Nat.zero_add, nv_drop_step, hx.out] at h1
       obtain ⟨p1, p2⟩ := tz_spec x hz
       have h2 : nv l = (x / 2 ^ tz x + 2 ^ (64 - tz x) * nv (l.drop (k + 1))) * 2 ^ (64 * k + tz x) := by
        rw [h1, Nat.add_mul, Nat.mul_add, Nat.pow_add, show (2 : Nat) ^ 64 = 2 ^ (64 - tz x) * 2 ^ tz x by rw [← Nat.pow_add]; congr 1; omega]
        have e1 : x / 2 ^ tz x * (2 ^ (64 * k) * 2 ^ tz x) = 2 ^ (64 * k) * x := by
         rw [Nat.mul_comm (2 ^ (64 * k)), ← Nat.mul_assoc, ← p1, Nat.mul_comm]
        rw [e1]
        congr 1
        simp only [Nat.mul_assoc, Nat.mul_comm, Nat.mul_left_comm]
       refine (tz_eq h2 ?_).1
       have e2 : (2 : Nat) ^ (64 - tz x) = 2 * 2 ^ (63 - tz x) := by rw [← Nat.pow_succ']; congr 1; omega
       rw [e2, Nat.mul_assoc]
       omega)
      have e2 : wrap64 (64 * (k : Int)) = ((64 * k : Nat) : Int) := by unfold wrap64; omega
      have e3 : wrap64 (((64 * k : Nat) : Int) + (tz x : Int)) = ((64 * k + tz x : Nat) : Int) := by unfold wrap64; omega
      go_wp2_with (go_at_call 148; refine (QZ.out _ (tab_below HT.out (pw_below_drewN (Below.refl w.heap.size w) nw))).mono ?_; rintro e w' ⟨rfl, rfl⟩)
      go_ret
      exact ⟨by rw [HV.out]; rfl, ⟨nw, rfl⟩⟩
  · obtain rfl : k = l.length := by omega
    have HV := yk (show tz (nv l) = 0 by have h := HG.out; rw [List.take_length] at h; rw [h, tz_zero])
    go_wp2
    go_ret
    exact ⟨by rw [HV.out]; rfl, ⟨nw, rfl⟩⟩
theorem drewN_of {w w1 w2 : World} (h : ∃ n, w1 = w.drewN n) (k : ∃ n, w2 = w1.drewN n) : ∃ n, w2 = w.drewN n := by
 obtain ⟨n, rfl⟩ := h
 obtain ⟨m, rfl⟩ := k
 exact ⟨n + m, by simp [World.drewN_drewN]⟩
theorem trim_own {W : World} {base : Nat} {A : Option Addr} {n c : Nat} {l : List Nat} (h : kU.R 64 W base (fun _ => True) (.slice A n c) l) (wl : Wf l) (hl : n ≤ 4294967296) :
 Calls Tryz.prog 109 #[.slice A n c] W fun e w' => ∃ v, e = .returned v ∧ PL w' base v (limbs (nv l)) ∧ ∃ m, w' = W.drewN m := by
 obtain ⟨h1, h2, h3⟩ := Kd.R_reads' h
 subst h1
 refine (trim_any l A c W h3 h2 wl hl).mono ?_
 rintro e w' ⟨rfl, m, rfl⟩
 exact ⟨_, rfl, (PL.trim h wl).below (pw_below_drewN yr _), ⟨m, rfl⟩⟩
theorem take_set (l : List Nat) (k x : Nat) : (l.set k x).take k = l.take k := by
 apply List.ext_getElem?
 intro i
 rcases Nat.lt_or_ge i k with hi | hi
 · rw [List.getElem?_take_of_lt hi, List.getElem?_take_of_lt hi, List.getElem?_set_ne (by omega)]
 · rw [List.getElem?_eq_none (by rw [List.length_take]; omega), List.getElem?_eq_none (by rw [List.length_take]; omega)]
theorem wd_set (l : List Nat) (k x : Nat) (h : k < l.length) : wd (l.set k x) k = x := by
 unfold wd
 rw [List.getElem?_set_self h]; rfl
theorem nv_take_set (l : List Nat) (k x : Nat) (h : k < l.length) : nv ((l.set k x).take (k + 1)) = nv (l.take k) + 2 ^ (64 * k) * x := by
 rw [nv_take_succ, take_set, wd_set l k x h]
theorem padd_any (a b : List Nat) (A B : Option Addr) (na nb c d : Nat) (hna : a.length = na) (hnb : b.length = nb) (w : World) (ha : kU.C w A na a) (hb : kU.C w B nb b) (hc : na ≤ c) (hd : nb ≤ d) (wa : Wf a) (wb : Wf b) (la : na ≤ 2147483648) (lb : nb ≤ 2147483648) :
 Calls Tryz.prog 103 #[.slice A na c, .slice B nb d] w fun e w' => ∃ v, e = .returned v ∧ PL w' w.heap.size v (limbs (nv a + nv b)) ∧ BL w w' := by
 have Ha := yk ha
 have Hb := yk hb
 have Wa := yk wa
 have Wb := yk wb
 have HNa := yk hna
 have HNb := yk hnb
 clear ha hb wa wb hna hnb
 rcases Nat.lt_or_ge na nb with hab | hab
 ·
  go_enter Tryz.func103, Tryz.ntmps103
  obtain ⟨N, hN⟩ : ∃ N, N = nb + 1 := ⟨_, rfl⟩
  have hN1 : (nb : Int) + 1 = (N : Int) := by omega
  have hNl : N ≤ 2147483649 := by omega
  have hNg : nb < N := by omega
  have HN_ := yk hN
  clear hN
  go_wp2_with ((with_reducible refine gate_dst (N := 19) rfl ?_); go_must (refine Kd.R_make kU (w0 := w) w.heap.size 64 rfl rfl 22 (.tmp 18) (.tmp 18) rfl (N : Int) ?mx ?my Tryz.underlying22 (.int .u64 0) 8 info_word rfl (by decide) (by decide) 0 (ok := fun _ => True) (okp := fun _ => False) ?mz (fun _ h => h.elim) trivial (by omega) ?ml yr (Nat.le_refl _) ?_; (case mx => rfl); (case my => rfl); (case mz => rfl); (case ml => omega); intro v_3 w_3 ho hb hg hown; obtain ⟨g, cap, rfl, hg1, hg2, _⟩ := Kd.R_form ho (by simp; omega); rw [show (List.replicate ((N : Int)).toNat (0 : Nat)).length = N by simp] at ho ⊢; have HO := yk ho; have B3 := yk hb; have HG := yk hg1; clear ho hb hg hown hg1 hg2))
  go_loopw [6, 22] (fun v6 v22 wr => ∃ (k cy : Nat) (o : List Nat), v6 = .int .u64 cy ∧ v22 = .int .i64 k ∧ k ≤ nb ∧ cy ≤ 1 ∧ Aside0 (BL w wr) ∧ Aside0 (kU.R 64 wr w.heap.size (fun _ => True) (.slice (some ⟨g, 0, none⟩) N cap) o) ∧ Aside0 (o.length = N ∧ Wf o ∧ nv (o.take k) + 2 ^ (64 * k) * cy = nv (b.take k) + nv (a.take k))) (fun _ v22 _ => nb - (intOf v22).toNat)
  case atStart => exact ⟨0, 0, _, rfl, rfl, Nat.zero_le _, by omega, B3, HO, ⟨by simp, Wf.replicate _, by simp [nv]⟩⟩
  case round =>
   obtain ⟨k, cy, o, rfl, rfl, hk, hcy, HB, HO1, HG1⟩ := hrel
   by_cases hlt : k < nb
   · obtain ⟨ad, x, hA', hx0, hcell⟩ := at_word (Kd.C_below Hb.out HB.out) HNb.out k hlt
     subst hA'
     have HX := yk (wd_of hx0)
     have hx64 : x < 18446744073709551616 := Wb.out.get hx0
     clear hx0
     have hkN : k < N := by omega
     obtain ⟨hw1, hw2, hput⟩ := put_word HO1.out hkN
     have HPUT := yk hput
     clear hput
     by_cases hlt2 : k < na
     · obtain ⟨bd, y, hB', hy0, hcell2⟩ := at_word (Kd.C_below Ha.out HB.out) HNa.out k hlt2
       subst hB'
       have HY := yk (wd_of hy0)
       have hy64 : y < 18446744073709551616 := Wa.out.get hy0
       clear hy0
       obtain ⟨s, c', hs1, hs2, hs3, hs4⟩ : ∃ s c' : Nat, s < 18446744073709551616 ∧ c' ≤ 1 ∧ s + 18446744073709551616 * c' = x + y + cy ∧ ∀ W : World, (callFunc 134 #[.int .u64 (x : Int), .int .u64 (y : Int), .int .u64 (cy : Int)]).run Tryz.prog W = .ok (.value (.tuple #[.int .u64 (s : Int), .int .u64 (c' : Int)])) W := ⟨(x + y + cy) % 18446744073709551616, (x + y + cy) / 18446744073709551616, by omega, by omega, by omega, fun W => Tryz.bits_Add64 x y cy hcy W⟩
       have hst := run_store_word (P := Tryz.prog) (u := (s : Int)) hw1 hw2
       have HS := yk hs3
       clear hs3
       go_wp2
       go_roundw
       case rel => exact ⟨k + 1, c', o.set k s, rfl, by go_num, by omega, hs2, ⟨HB.out.setCell HG.out _⟩, ⟨HPUT.out s⟩, ⟨by simp [HG1.out.1], HG1.out.2.1.set hs1, by
        rw [nv_take_set o k s (by have := HG1.out.1; omega), nv_take_succ, nv_take_succ, HX.out, HY.out]
        exact add_step HG1.out.2.2 HS.out rfl⟩⟩
       case measure => simp [intOf]; omega
     · have HY := yk (show wd a k = 0 from wd_ge (by have := HNa.out; omega))
       obtain ⟨s, c', hs1, hs2, hs3, hs4⟩ : ∃ s c' : Nat, s < 18446744073709551616 ∧ c' ≤ 1 ∧ s + 18446744073709551616 * c' = x + 0 + cy ∧ ∀ W : World, (callFunc 134 #[.int .u64 (x : Int), .int .u64 0, .int .u64 (cy : Int)]).run Tryz.prog W = .ok (.value (.tuple #[.int .u64 (s : Int), .int .u64 (c' : Int)])) W := ⟨(x + 0 + cy) % 18446744073709551616, (x + 0 + cy) / 18446744073709551616, by omega, by omega, by omega, fun W => Tryz.bits_Add64 x 0 cy hcy W⟩
       have hst := run_store_word (P := Tryz.prog) (u := (s : Int)) hw1 hw2
       have HS := yk hs3
       clear hs3
       go_wp2
       go_roundw
       case rel => exact ⟨k + 1, c', o.set k s, rfl, by go_num, by omega, hs2, ⟨HB.out.setCell HG.out _⟩, ⟨HPUT.out s⟩, ⟨by simp [HG1.out.1], HG1.out.2.1.set hs1, by
        rw [nv_take_set o k s (by have := HG1.out.1; omega), nv_take_succ, nv_take_succ, HX.out, HY.out]
        exact add_step HG1.out.2.2 HS.out rfl⟩⟩
       case measure => simp [intOf]; omega
   · obtain rfl : k = nb := by omega
     obtain ⟨hw1, hw2, hput⟩ := put_word HO1.out (show k < N by omega)
     have hst := run_store_word (P := Tryz.prog) (u := (cy : Int)) hw1 hw2
     have HR := yk (hput cy)
     have HF := yk (show nv (o.set k cy) = nv a + nv b by
      have h1 := HG1.out.2.2
      rw [nv_take_all (l := b) (by have := HNb.out; omega), nv_take_all (l := a) (by have := HNa.out; omega)] at h1
      have h2 := nv_take_set o k cy (by have := HG1.out.1; omega)
      rw [nv_take_all (l := o.set k cy) (by have := HN_.out; simp [HG1.out.1]; omega)] at h2
      omega)
     have QT := yk (fun (m : World) (h : kU.R 64 m w.heap.size (fun _ => True) (.slice (some ⟨g, 0, none⟩) N cap) (o.set k cy)) => trim_own h (HG1.out.2.1.set (by omega)) (by omega))
     have BS := yk (show Below w.heap.size w (wr.setCell ⟨g, k, none⟩ (.int .u64 (cy : Int))) from HB.out.setCell HG.out _)
     clear hput
     go_wp2_with (go_at_call 109; refine (QT.out _ HR.out).mono ?_; rintro e w5 ⟨v, rfl, ho, n5, rfl⟩; rw [HF.out] at ho; have HOO := yk ho; clear ho)
     go_ret
     exact ⟨_, rfl, HOO.out, pw_below_drewN BS.out _⟩
 ·
  go_enter Tryz.func103, Tryz.ntmps103
  obtain ⟨N, hN⟩ : ∃ N, N = na + 1 := ⟨_, rfl⟩
  have hN1 : (na : Int) + 1 = (N : Int) := by omega
  have hNl : N ≤ 2147483649 := by omega
  have hNg : na < N := by omega
  have HN_ := yk hN
  clear hN
  go_wp2_with ((with_reducible refine gate_dst (N := 19) rfl ?_); go_must (refine Kd.R_make kU (w0 := w) w.heap.size 64 rfl rfl 22 (.tmp 18) (.tmp 18) rfl (N : Int) ?mx ?my Tryz.underlying22 (.int .u64 0) 8 info_word rfl (by decide) (by decide) 0 (ok := fun _ => True) (okp := fun _ => False) ?mz (fun _ h => h.elim) trivial (by omega) ?ml yr (Nat.le_refl _) ?_; (case mx => rfl); (case my => rfl); (case mz => rfl); (case ml => omega); intro v_3 w_3 ho hb hg hown; obtain ⟨g, cap, rfl, hg1, hg2, _⟩ := Kd.R_form ho (by simp; omega); rw [show (List.replicate ((N : Int)).toNat (0 : Nat)).length = N by simp] at ho ⊢; have HO := yk ho; have B3 := yk hb; have HG := yk hg1; clear ho hb hg hown hg1 hg2))
  go_loopw [6, 22] (fun v6 v22 wr => ∃ (k cy : Nat) (o : List Nat), v6 = .int .u64 cy ∧ v22 = .int .i64 k ∧ k ≤ na ∧ cy ≤ 1 ∧ Aside0 (BL w wr) ∧ Aside0 (kU.R 64 wr w.heap.size (fun _ => True) (.slice (some ⟨g, 0, none⟩) N cap) o) ∧ Aside0 (o.length = N ∧ Wf o ∧ nv (o.take k) + 2 ^ (64 * k) * cy = nv (a.take k) + nv (b.take k))) (fun _ v22 _ => na - (intOf v22).toNat)
  case atStart => exact ⟨0, 0, _, rfl, rfl, Nat.zero_le _, by omega, B3, HO, ⟨by simp, Wf.replicate _, by simp [nv]⟩⟩
  case round =>
   obtain ⟨k, cy, o, rfl, rfl, hk, hcy, HB, HO1, HG1⟩ := hrel
   by_cases hlt : k < na
   · obtain ⟨ad, x, hA', hx0, hcell⟩ := at_word (Kd.C_below Ha.out HB.out) HNa.out k hlt
     subst hA'
     have HX := yk (wd_of hx0)
     have hx64 : x < 18446744073709551616 := Wa.out.get hx0
     clear hx0
     have hkN : k < N := by omega
     obtain ⟨hw1, hw2, hput⟩ := put_word HO1.out hkN
     have HPUT := yk hput
     clear hput
     by_cases hlt2 : k < nb
     · obtain ⟨bd, y, hB', hy0, hcell2⟩ := at_word (Kd.C_below Hb.out HB.out) HNb.out k hlt2
       subst hB'
       have HY := yk (wd_of hy0)
       have hy64 : y < 18446744073709551616 := Wb.out.get hy0
       clear hy0
       obtain ⟨s, c', hs1, hs2, hs3, hs4⟩ : ∃ s c' : Nat, s < 18446744073709551616 ∧ c' ≤ 1 ∧ s + 18446744073709551616 * c' = x + y + cy ∧ ∀ W : World, (callFunc 134 #[.int .u64 (x : Int), .int .u64 (y : Int), .int .u64 (cy : Int)]).run Tryz.prog W = .ok (.value (.tuple #[.int .u64 (s : Int), .int .u64 (c' : Int)])) W := ⟨(x + y + cy) % 18446744073709551616, (x + y + cy) / 18446744073709551616, by omega, by omega, by omega, fun W => Tryz.bits_Add64 x y cy hcy W⟩
       have hst := run_store_word (P := Tryz.prog) (u := (s : Int)) hw1 hw2
       have HS := yk hs3
       clear hs3
       go_wp2
       go_roundw
       case rel => exact ⟨k + 1, c', o.set k s, rfl, by go_num, by omega, hs2, ⟨HB.out.setCell HG.out _⟩, ⟨HPUT.out s⟩, ⟨by simp [HG1.out.1], HG1.out.2.1.set hs1, by
        rw [nv_take_set o k s (by have := HG1.out.1; omega), nv_take_succ, nv_take_succ, HX.out, HY.out]
        exact add_step HG1.out.2.2 HS.out rfl⟩⟩
       case measure => simp [intOf]; omega
     · have HY := yk (show wd b k = 0 from wd_ge (by have := HNb.out; omega))
       obtain ⟨s, c', hs1, hs2, hs3, hs4⟩ : ∃ s c' : Nat, s < 18446744073709551616 ∧ c' ≤ 1 ∧ s + 18446744073709551616 * c' = x + 0 + cy ∧ ∀ W : World, (callFunc 134 #[.int .u64 (x : Int), .int .u64 0, .int .u64 (cy : Int)]).run Tryz.prog W = .ok (.value (.tuple #[.int .u64 (s : Int), .int .u64 (c' : Int)])) W := ⟨(x + 0 + cy) % 18446744073709551616, (x + 0 + cy) / 18446744073709551616, by omega, by omega, by omega, fun W => Tryz.bits_Add64 x 0 cy hcy W⟩
       have hst := run_store_word (P := Tryz.prog) (u := (s : Int)) hw1 hw2
       have HS := yk hs3
       clear hs3
       go_wp2
       go_roundw
       case rel => exact ⟨k + 1, c', o.set k s, rfl, by go_num, by omega, hs2, ⟨HB.out.setCell HG.out _⟩, ⟨HPUT.out s⟩, ⟨by simp [HG1.out.1], HG1.out.2.1.set hs1, by
        rw [nv_take_set o k s (by have := HG1.out.1; omega), nv_take_succ, nv_take_succ, HX.out, HY.out]
        exact add_step HG1.out.2.2 HS.out rfl⟩⟩
       case measure => simp [intOf]; omega
   · obtain rfl : k = na := by omega
     obtain ⟨hw1, hw2, hput⟩ := put_word HO1.out (show k < N by omega)
     have hst := run_store_word (P := Tryz.prog) (u := (cy : Int)) hw1 hw2
     have HR := yk (hput cy)
     have HF := yk (show nv (o.set k cy) = nv a + nv b by
      have h1 := HG1.out.2.2
      rw [nv_take_all (l := a) (by have := HNa.out; omega), nv_take_all (l := b) (by have := HNb.out; omega)] at h1
      have h2 := nv_take_set o k cy (by have := HG1.out.1; omega)
      rw [nv_take_all (l := o.set k cy) (by have := HN_.out; simp [HG1.out.1]; omega)] at h2
      omega)
     have QT := yk (fun (m : World) (h : kU.R 64 m w.heap.size (fun _ => True) (.slice (some ⟨g, 0, none⟩) N cap) (o.set k cy)) => trim_own h (HG1.out.2.1.set (by omega)) (by omega))
     have BS := yk (show Below w.heap.size w (wr.setCell ⟨g, k, none⟩ (.int .u64 (cy : Int))) from HB.out.setCell HG.out _)
     clear hput
     go_wp2_with (go_at_call 109; refine (QT.out _ HR.out).mono ?_; rintro e w5 ⟨v, rfl, ho, n5, rfl⟩; rw [HF.out] at ho; have HOO := yk ho; clear ho)
     go_ret
     exact ⟨_, rfl, HOO.out, pw_below_drewN BS.out _⟩
theorem psub_any (a b : List Nat) (A B : Option Addr) (na nb c d : Nat) (hna : a.length = na) (hnb : b.length = nb) (w : World) (ha : kU.C w A na a) (hb : kU.C w B nb b) (hc : na ≤ c) (hd : nb ≤ d) (wa : Wf a) (wb : Wf b) (la : na ≤ 2147483648) (lb : nb ≤ 2147483648) (l0 : 0 < na) (hle : nv b ≤ nv a) :
 Calls Tryz.prog 105 #[.slice A na c, .slice B nb d] w fun e w' => ∃ v, e = .returned v ∧ PL w' w.heap.size v (limbs (nv a - nv b)) ∧ BL w w' := by
 have Ha := yk ha
 have Hb := yk hb
 have Wa := yk wa
 have Wb := yk wb
 have HNa := yk hna
 have HNb := yk hnb
 have HLE := yk hle
 clear ha hb wa wb hna hnb hle
 go_enter Tryz.func105, Tryz.ntmps105
 go_wp2_with ((with_reducible refine gate_dst (N := 11) rfl ?_); go_must (refine Kd.R_make kU (w0 := w) w.heap.size 64 rfl rfl 22 (.tmp 10) (.tmp 10) rfl (na : Int) ?mx ?my Tryz.underlying22 (.int .u64 0) 8 info_word rfl (by decide) (by decide) 0 (ok := fun _ => True) (okp := fun _ => False) ?mz (fun _ h => h.elim) trivial (by omega) ?ml yr (Nat.le_refl _) ?_; (case mx => rfl); (case my => rfl); (case mz => rfl); (case ml => omega); intro v_3 w_3 ho hb hg hown; obtain ⟨g, cap, rfl, hg1, hg2, _⟩ := Kd.R_form ho (by simp; omega); rw [show (List.replicate ((na : Int)).toNat (0 : Nat)).length = na by simp] at ho ⊢; have HO := yk ho; have B3 := yk hb; have HG := yk hg1; clear ho hb hg hown hg1 hg2))
 go_loopw [6, 14] (fun v6 v14 wr => ∃ (k cy : Nat) (o : List Nat), v6 = .int .u64 cy ∧ v14 = .int .i64 k ∧ k ≤ na ∧ cy ≤ 1 ∧ Aside0 (BL w wr) ∧ Aside0 (kU.R 64 wr w.heap.size (fun _ => True) (.slice (some ⟨g, 0, none⟩) na cap) o) ∧ Aside0 (o.length = na ∧ Wf o ∧ nv (o.take k) + nv (b.take k) = nv (a.take k) + 2 ^ (64 * k) * cy)) (fun _ v14 _ => na - (intOf v14).toNat)
 case atStart => exact ⟨0, 0, _, rfl, rfl, Nat.zero_le _, by omega, B3, HO, ⟨by simp, Wf.replicate _, by simp [nv]⟩⟩
 case round =>
  obtain ⟨k, cy, o, rfl, rfl, hk, hcy, HB, HO1, HG1⟩ := hrel
  by_cases hlt : k < na
  · obtain ⟨ad, x, hA', hx0, hcell⟩ := at_word (Kd.C_below Ha.out HB.out) HNa.out k hlt
    subst hA'
    have HX := yk (wd_of hx0)
    have hx64 : x < 18446744073709551616 := Wa.out.get hx0
    clear hx0
    obtain ⟨hw1, hw2, hput⟩ := put_word HO1.out hlt
    have HPUT := yk hput
    clear hput
    by_cases hlt2 : k < nb
    · obtain ⟨bd, y, hB', hy0, hcell2⟩ := at_word (Kd.C_below Hb.out HB.out) HNb.out k hlt2
      subst hB'
      have HY := yk (wd_of hy0)
      have hy64 : y < 18446744073709551616 := Wb.out.get hy0
      clear hy0
      obtain ⟨s, c', hs1, hs2, hs3, hs4⟩ : ∃ s c' : Nat, s < 18446744073709551616 ∧ c' ≤ 1 ∧ s + y + cy = x + 18446744073709551616 * c' ∧ ∀ W : World, (callFunc 135 #[.int .u64 (x : Int), .int .u64 (y : Int), .int .u64 (cy : Int)]).run Tryz.prog W = .ok (.value (.tuple #[.int .u64 (s : Int), .int .u64 (c' : Int)])) W := ⟨(x + 18446744073709551616 - y - cy) % 18446744073709551616, if x < y + cy then 1 else 0, by omega, by split <;> omega, by split <;> omega, fun W => Tryz.bits_Sub64 x y cy hcy W⟩
      have hst := run_store_word (P := Tryz.prog) (u := (s : Int)) hw1 hw2
      have HS := yk hs3
      clear hs3
      go_wp2
      go_roundw
      case rel => exact ⟨k + 1, c', o.set k s, rfl, by go_num, by omega, hs2, ⟨HB.out.setCell HG.out _⟩, ⟨HPUT.out s⟩, ⟨by simp [HG1.out.1], HG1.out.2.1.set hs1, by
       rw [nv_take_set o k s (by have := HG1.out.1; omega), nv_take_succ, nv_take_succ, HX.out, HY.out]
       exact sub_step HG1.out.2.2 HS.out rfl⟩⟩
      case measure => simp [intOf]; omega
    · have HY := yk (show wd b k = 0 from wd_ge (by have := HNb.out; omega))
      obtain ⟨s, c', hs1, hs2, hs3, hs4⟩ : ∃ s c' : Nat, s < 18446744073709551616 ∧ c' ≤ 1 ∧ s + 0 + cy = x + 18446744073709551616 * c' ∧ ∀ W : World, (callFunc 135 #[.int .u64 (x : Int), .int .u64 0, .int .u64 (cy : Int)]).run Tryz.prog W = .ok (.value (.tuple #[.int .u64 (s : Int), .int .u64 (c' : Int)])) W := ⟨(x + 18446744073709551616 - 0 - cy) % 18446744073709551616, if x < 0 + cy then 1 else 0, by omega, by split <;> omega, by split <;> omega, fun W => Tryz.bits_Sub64 x 0 cy hcy W⟩
      have hst := run_store_word (P := Tryz.prog) (u := (s : Int)) hw1 hw2
      have HS := yk hs3
      clear hs3
      go_wp2
      go_roundw
      case rel => exact ⟨k + 1, c', o.set k s, rfl, by go_num, by omega, hs2, ⟨HB.out.setCell HG.out _⟩, ⟨HPUT.out s⟩, ⟨by simp [HG1.out.1], HG1.out.2.1.set hs1, by
       rw [nv_take_set o k s (by have := HG1.out.1; omega), nv_take_succ, nv_take_succ, HX.out, HY.out]
       exact sub_step HG1.out.2.2 HS.out rfl⟩⟩
      case measure => simp [intOf]; omega
  · obtain rfl : k = na := by omega
    have HF := yk (show nv o = nv a - nv b by
     have h1 := HG1.out.2.2
     rw [nv_take_all (l := a) (by have := HNa.out; omega), nv_take_all (l := o) (by have := HG1.out.1; omega)] at h1
     have h2 := nv_lt Wa.out
     have h3 := nv_lt HG1.out.2.1
     rw [HNa.out] at h2
     rw [HG1.out.1] at h3
     have h4 := HLE.out
     have h5 : nv (b.take k) = nv b := by rw [nv_take Wb.out]; exact Nat.mod_eq_of_lt (by omega)
     rw [h5] at h1
     have h6 : cy = 0 := by
      refine Classical.byContradiction fun hc => ?_
      have : cy = 1 := by omega
      rw [this, Nat.mul_one] at h1
      omega
     rw [h6, Nat.mul_zero] at h1
     omega)
    have QT := yk (trim_own HO1.out HG1.out.2.1 (by omega))
    go_wp2_with (go_at_call 109; refine QT.out.mono ?_; rintro e w5 ⟨v, rfl, ho, n5, rfl⟩; rw [HF.out] at ho; have HOO := yk ho; clear ho)
    go_ret
    exact ⟨_, rfl, HOO.out, pw_below_drewN HB.out _⟩
theorem cmp_len {a b : Nat} (h : (limbs a).length < (limbs b).length) : a < b := by
 refine Classical.byContradiction fun hc => ?_
 have h1 := limbs_ge h
 have h2 := nv_lt (wf_limbs a)
 rw [nv_limbs] at h2
 omega
theorem pcmp_any (a b : List Nat) (A B : Option Addr) (na nb c d : Nat) (hna : a.length = na) (hnb : b.length = nb) (w : World) (ha : kU.C w A na a) (hb : kU.C w B nb b) (hc : na ≤ c) (hd : nb ≤ d) (wa : Wf a) (wb : Wf b) (la : na ≤ 4294967296) (lb : nb ≤ 4294967296) :
 Calls Tryz.prog 104 #[.slice A na c, .slice B nb d] w fun e w' => e = .returned (.int .i64 (cmpN (nv a) (nv b))) ∧ ∃ n, w' = w.drewN n := by
 subst hna hnb
 have QA := yk (trim_any a A c w ha hc wa la)
 have QB := yk (fun (m : Nat) => trim_any b B d (w.drewN m) (Kd.C_drewN hb _) hd wb lb)
 have CA := yk (C_trim ha wa)
 have CB := yk (C_trim hb wb)
 have l1 := Nat.le_trans (limbs_nv_len wa) la
 have l2 := Nat.le_trans (limbs_nv_len wb) lb
 obtain ⟨p, hp⟩ : ∃ p, p = nv a := ⟨_, rfl⟩
 obtain ⟨q, hq⟩ : ∃ p, p = nv b := ⟨_, rfl⟩
 rw [← hp] at QA CA l1 ⊢
 rw [← hq] at QB CB l2 ⊢
 clear hp hq ha hb wa wb la lb
 obtain ⟨L, hL⟩ : ∃ L, L = limbs p := ⟨_, rfl⟩
 obtain ⟨M, hM⟩ : ∃ L, L = limbs q := ⟨_, rfl⟩
 have HL := yk hL
 have HM := yk hM
 rw [← hL] at QA CA l1
 rw [← hM] at QB CB l2
 have WL := yk (show Wf L by rw [hL]; exact wf_limbs _)
 have WM := yk (show Wf M by rw [hM]; exact wf_limbs _)
 have VL := yk (show nv L = p by rw [hL, nv_limbs])
 have VM := yk (show nv M = q by rw [hM, nv_limbs])
 clear hL hM
 obtain ⟨n1, hn1⟩ : ∃ n, n = L.length := ⟨_, rfl⟩
 obtain ⟨n2, hn2⟩ : ∃ n, n = M.length := ⟨_, rfl⟩
 have N1 := yk hn1
 have N2 := yk hn2
 rw [← hn1] at QA CA l1
 rw [← hn2] at QB CB l2
 clear hn1 hn2
 rcases Nat.lt_trichotomy n1 n2 with h | h | h
 · have h1 : ((n1 : Int) != (n2 : Int)) = true := by simp; omega
   have h2 : (n1 : Int) < n2 := by omega
   have HV := yk (show cmpN p q = -1 by unfold cmpN; rw [if_pos (cmp_len (by rw [← HL.out, ← HM.out, ← N1.out, ← N2.out]; exact h))])
   go_enter Tryz.func104, Tryz.ntmps104
   go_wp2_with (go_at_call 109; first | (with_reducible refine QA.out.mono ?_; rintro e w' ⟨rfl, n, rfl⟩) | (with_reducible refine (QB.out _).mono ?_; rintro e w' ⟨rfl, n5, rfl⟩))
   go_ret
   exact ⟨ret_int (by rw [HV.out]), ⟨_, rfl⟩⟩
 · subst h
   have h1 : ((n1 : Int) != (n1 : Int)) = false := by simp
   go_enter Tryz.func104, Tryz.ntmps104
   go_wp2_with (go_at_call 109; first | (with_reducible refine QA.out.mono ?_; rintro e w' ⟨rfl, n, rfl⟩) | (with_reducible refine (QB.out _).mono ?_; rintro e w' ⟨rfl, n5, rfl⟩))
   go_loopw [5] (fun v5 wr => ∃ k : Nat, v5 = .int .i64 ((k : Int) - 1) ∧ k ≤ n1 ∧ Aside0 (∃ n, wr = w.drewN n) ∧ Aside0 (nv (L.drop k) = nv (M.drop k))) (fun v5 _ => (intOf v5 + 1).toNat)
   case atStart => exact ⟨n1, rfl, Nat.le_refl _, ⟨⟨_, rfl⟩⟩, ⟨by rw [List.drop_eq_nil_of_le (by have := N1.out; omega), List.drop_eq_nil_of_le (by have := N2.out; omega)]⟩⟩
   case round =>
    obtain ⟨k, rfl, hk, HW, HG⟩ := hrel
    obtain ⟨nw, rfl⟩ := HW.out
    clear HW
    by_cases hk0 : k = 0
    · subst hk0
      have HE := yk (show p = q by rw [← VL.out, ← VM.out]; simpa using HG.out)
      have HS := yk (show cmpN p q = 0 by unfold cmpN; rw [HE.out]; simp)
      go_wp2
      go_ret
      exact ⟨ret_int (by rw [HS.out]), ⟨nw, rfl⟩⟩
    · obtain ⟨j, rfl⟩ : ∃ j, k = j + 1 := ⟨k - 1, by omega⟩
      have hj1 : ((j + 1 : Nat) : Int) - 1 = (j : Int) := by omega
      rw [hj1]
      clear hj1 hk0
      have h0 : (0 : Int) ≤ (j : Int) := by omega
      obtain ⟨ad, x, hA', hx0, hcell⟩ := at_word CA.out N1.out.symm j (by omega)
      obtain ⟨bd, y, hB', hy0, hcell2⟩ := at_word CB.out N2.out.symm j (by omega)
      subst hA' hB'
      have HX := yk (wd_of hx0)
      have HY := yk (wd_of hy0)
      have hx64 : x < 18446744073709551616 := WL.out.get hx0
      have hy64 : y < 18446744073709551616 := WM.out.get hy0
      clear hx0 hy0
      have hjn : j < n1 := by omega
      rcases Nat.lt_trichotomy x y with hxy | hxy | hxy
      · have e1 : ((x : Int) != (y : Int)) = true := by simp; omega
        have e2 : (x : Int) < y := by omega
        have HV := yk (show cmpN p q = -1 by rw [← VL.out, ← VM.out]; exact cmp_lt WL.out HG.out (by rw [HX.out, HY.out]; exact hxy))
        go_wp2
        go_quiet (fail)
        go_wp2
        go_quiet (fail)
        go_wp2
        go_ret
        exact ⟨ret_int (by rw [HV.out]), drewN_of ⟨_, rfl⟩ (drewN_of ⟨_, rfl⟩ ⟨_, rfl⟩)⟩
      · subst hxy
        have e1 : ((x : Int) != (x : Int)) = false := by simp
        go_wp2
        go_quiet (fail)
        go_wp2
        go_roundw
        case rel => exact ⟨j, rfl, by omega, ⟨by first | exact ⟨_, rfl⟩ | exact drewN_of ⟨_, rfl⟩ ⟨_, rfl⟩⟩, ⟨by have e1 := HX.out; have e2 := HY.out; have e3 := HG.out; have e4 := nv_drop_step L j; have e5 := nv_drop_step M j; omega⟩⟩
        case measure => simp [intOf]
      · have e1 : ((x : Int) != (y : Int)) = true := by simp; omega
        have e2 : ¬ (x : Int) < y := by omega
        have HV := yk (show cmpN p q = 1 by rw [← VL.out, ← VM.out]; exact cmp_gt WM.out HG.out (by rw [HX.out, HY.out]; exact hxy))
        go_wp2
        go_quiet (fail)
        go_wp2
        go_quiet (fail)
        go_wp2
        go_ret
        exact ⟨ret_int (by rw [HV.out]), drewN_of ⟨_, rfl⟩ (drewN_of ⟨_, rfl⟩ ⟨_, rfl⟩)⟩
 · have h1 : ((n1 : Int) != (n2 : Int)) = true := by simp; omega
   have h2 : ¬ (n1 : Int) < n2 := by omega
   have HV := yk (show cmpN p q = 1 by
    have := cmp_len (a := q) (b := p) (by rw [← HL.out, ← HM.out, ← N1.out, ← N2.out]; exact h)
    unfold cmpN; rw [if_neg (by omega), if_pos this])
   go_enter Tryz.func104, Tryz.ntmps104
   go_wp2_with (go_at_call 109; first | (with_reducible refine QA.out.mono ?_; rintro e w' ⟨rfl, n, rfl⟩) | (with_reducible refine (QB.out _).mono ?_; rintro e w' ⟨rfl, n5, rfl⟩))
   go_ret
   exact ⟨ret_int (by rw [HV.out]), ⟨_, rfl⟩⟩
theorem nv_set2 {l : List Nat} {i : Nat} (h : i < l.length) (x : Nat) (h0 : wd l i = 0) : nv (l.set i x) = nv l + 2 ^ (64 * i) * x := by
 have := nv_set h x
 rw [h0, Nat.mul_zero, Nat.add_zero] at this
 exact this
theorem shl_two (p s c : Nat) : 2 ^ (64 * p) * s + 2 ^ (64 * (p + 1)) * c = 2 ^ (64 * p) * (s + 2 ^ 64 * c) := by
 rw [pw p, Nat.mul_add, Nat.mul_assoc, Nat.mul_left_comm]
theorem pshl_any (a : List Nat) (A : Option Addr) (na c n : Nat) (hna : a.length = na) (w : World) (ha : kU.C w A na a) (hc : na ≤ c) (wa : Wf a) (la : na ≤ 1073741824) (ln : n ≤ 68719476736) :
 Calls Tryz.prog 131 #[.slice A na c, .int .i64 (n : Int)] w fun e w' => ∃ v, e = .returned v ∧ PL w' w.heap.size v (limbs (nv a * 2 ^ n)) ∧ BL w w' := by
 subst hna
 have QA := yk (trim_any a A c w ha hc wa (by omega))
 have CA := yk (C_trim ha wa)
 obtain ⟨L, hL⟩ : ∃ L, L = limbs (nv a) := ⟨_, rfl⟩
 obtain ⟨n1, hn1⟩ : ∃ n, n = L.length := ⟨_, rfl⟩
 have ln1 : n1 ≤ 1073741824 := by have := limbs_nv_len wa; rw [hn1, hL]; omega
 have WL := yk (show Wf L by rw [hL]; exact wf_limbs _)
 have VL := yk (show nv L = nv a by rw [hL, nv_limbs])
 have NL := yk hn1.symm
 rw [← hL, ← hn1] at QA CA
 clear ha hc wa la hL hn1
 by_cases h0 : n1 = 0
 · subst h0
   have HZ := yk (show limbs (nv a * 2 ^ n) = [] by rw [← VL.out, List.length_eq_zero_iff.1 NL.out]; simp [nv, limbs_zero])
   go_enter Tryz.func131, Tryz.ntmps131
   go_wp2_with (go_at_call 109; refine QA.out.mono ?_; rintro e w_1 ⟨rfl, nq1, rfl⟩)
   go_ret
   exact ⟨_, rfl, by rw [HZ.out]; exact PL.nil _ _, pw_below_drewN yr _⟩
 have h00 : ((n1 : Int) == 0) = false := by simp; exact h0
 obtain ⟨q, hq⟩ : ∃ q, q = n / 64 := ⟨_, rfl⟩
 obtain ⟨k, hk⟩ : ∃ k, k = n % 64 := ⟨_, rfl⟩
 have hdv : (n : Int).tdiv 64 = (q : Int) := by rw [Int.tdiv_eq_ediv_of_nonneg (by omega)]; omega
 have hmd : (n : Int).tmod 64 = (k : Int) := by rw [Int.tmod_eq_emod_of_nonneg (by omega)]; omega
 have hk63 : k ≤ 63 := by omega
 have hq30 : q ≤ 1073741824 := by omega
 have HNK := yk (show n = 64 * q + k by omega)
 clear hq hk
 obtain ⟨N, hN⟩ : ∃ N, N = q + n1 + 1 := ⟨_, rfl⟩
 have hN1 : (q : Int) + n1 + 1 = (N : Int) := by omega
 have hN2 : N ≤ 2147483649 := by omega
 have hN3 : q + n1 < N := by omega
 have hNp : 0 < N := by omega
 have HN := yk hN
 clear hN h0
 go_enter Tryz.func131, Tryz.ntmps131
 go_wp2_with (first
  | (go_at_call 109; refine QA.out.mono ?_; rintro e w_2 ⟨rfl, hw2⟩; have W2 := yk (show BL w w_2 by obtain ⟨m, rfl⟩ := hw2; exact pw_below_drewN yr _); have C1 := yk (Kd.C_below CA.out W2.out); clear hw2)
  | ((with_reducible refine gate_dst (N := 20) rfl ?_); go_must (refine Kd.R_make kU (w0 := w_2) w_2.heap.size 64 rfl rfl 22 (.tmp 19) (.tmp 19) rfl (N : Int) ?mx ?my Tryz.underlying22 (.int .u64 0) 8 info_word rfl (by decide) (by decide) 0 (ok := fun _ => True) (okp := fun _ => False) ?mz (fun _ h => h.elim) trivial (by omega) ?ml yr (Nat.le_refl _) ?_; (case mx => rfl); (case my => rfl); (case mz => rfl); (case ml => omega); intro v_3 w_3 ho hb hg hown; obtain ⟨g, cap, rfl, hg1, hg2, _⟩ := Kd.R_form ho (by simp; omega); rw [show (List.replicate ((N : Int)).toNat (0 : Nat)).length = N by simp] at ho ⊢; have HO := yk ho; have B3 := yk hb; have HG := yk hg1; clear ho hb hg hown hg1 hg2)))
 go_loopw [25] (fun v25 wr => ∃ (i : Nat) (o : List Nat), v25 = .int .i64 i ∧ i ≤ n1 ∧ Aside0 (BL w_2 wr) ∧ Aside0 (kU.R 64 wr w_2.heap.size (fun _ => True) (.slice (some ⟨g, 0, none⟩) N cap) o) ∧ Aside0 (o.length = N ∧ Wf o ∧ nv o = nv (L.take i) * 2 ^ (64 * q + k))) (fun v25 _ => n1 - (intOf v25).toNat)
 case atStart => exact ⟨0, _, rfl, Nat.zero_le _, B3, HO, ⟨by simp, Wf.replicate _, by rw [nv_replicate]; simp [nv]⟩⟩
 case round =>
  obtain ⟨i, o, rfl, hi, HB, HO1, HG1⟩ := hrel
  by_cases hlt : i < n1
  · obtain ⟨ad, x, hA', hx0, hcell⟩ := at_word (Kd.C_below C1.out HB.out) NL.out i hlt
    subst hA'
    have HX := yk (wd_of hx0)
    have hx64 : x < 18446744073709551616 := WL.out.get hx0
    clear hx0
    obtain ⟨p, hp⟩ : ∃ p, p = q + i := ⟨_, rfl⟩
    have hpN : p < N := by omega
    have hp1N : p + 1 < N := by have := HN.out; omega
    have hp1 : (q : Int) + i = (p : Int) := by omega
    have HP := yk hp
    obtain ⟨w0, hw0⟩ : ∃ w0, w0 = wd o p := ⟨_, rfl⟩
    have HW0 := yk hw0
    have hsmall : nv o < 2 ^ (64 * p + k) := by
     rw [HG1.out.2.2, HP.out, show 64 * (q + i) + k = 64 * i + (64 * q + k) by omega]
     have h5 := Nat.mul_lt_mul_of_pos_right (nv_take_lt WL.out i) (Nat.two_pow_pos (64 * q + k))
     rw [← Nat.pow_add] at h5
     exact h5
    have hw0k : w0 < 2 ^ k := by
     rw [hw0, wd_eq HG1.out.2.1]
     refine Nat.lt_of_le_of_lt (Nat.mod_le _ _) ?_
     rw [Nat.div_lt_iff_lt_mul (Nat.two_pow_pos _), ← Nat.pow_add]
     rw [Nat.add_comm]; exact hsmall
    have hw64 : w0 < 18446744073709551616 := by rw [hw0]; exact wd_lt HG1.out.2.1 p
    have HZ1 := yk (show wd o (p + 1) = 0 from wd_small HG1.out.2.1 (k := p + 1) (Nat.lt_of_lt_of_le hsmall (Nat.pow_le_pow_right (by decide) (by omega))) (Nat.le_refl _))
    obtain ⟨hw1, hw2, hput⟩ := put_word HO1.out hpN
    rw [← hw0] at hw1
    obtain ⟨h1, h2, h3, h4⟩ := shl_word hx64 hk63 hw0k
    obtain ⟨s, hs⟩ : ∃ s, s = x * 2 ^ k % 2 ^ 64 := ⟨_, rfl⟩
    obtain ⟨t, ht⟩ : ∃ t, t = s + w0 := ⟨_, rfl⟩
    obtain ⟨c', hc'⟩ : ∃ c', c' = x / 2 ^ (64 - k) := ⟨_, rfl⟩
    have hd := Nat.mod_add_div (x * 2 ^ k) (2 ^ 64)
    rw [← hs, h3, ← hc'] at hd
    rw [← hs] at h1 h2
    rw [← hc'] at h4
    have hs64 : s < 18446744073709551616 := by rw [hs]; exact Nat.mod_lt _ (by decide)
    have hsh : IntKind.u64.wrap ((x : Int) * 2 ^ k) = (s : Int) := by
     rw [hs]; unfold IntKind.wrap; simp [IntKind.bits, IntKind.signed]
    have hor : bits .or .u64 (w0 : Int) (s : Int) = (t : Int) := by
     rw [bits_or_u64_nat w0 s hw64 hs64, Nat.or_comm, h1, ht]
    have hdd : s + 2 ^ 64 * c' = x * 2 ^ k := by omega
    have hc64 : c' < 18446744073709551616 := Nat.lt_of_lt_of_le h4 (Nat.pow_le_pow_right (by decide) (show k ≤ 64 by omega))
    have ht64 : t < 18446744073709551616 := by omega
    have hshr : (x : Int) / 2 ^ (64 - k) = (c' : Int) := by rw [hc']; simp
    have HDD := yk hdd
    have HT := yk ht
    have HC4 := yk h4
    have HPUT := yk hput
    have hst := run_store_word (P := Tryz.prog) (u := (t : Int)) hw1 hw2
    have HO2 := yk (hput t)
    have HL2 := yk (show (o.set p t).length = N by simp [HG1.out.1])
    have HV2 := yk (show nv (o.set p t) = nv o + 2 ^ (64 * p) * s by
     have := nv_set (l := o) (i := p) (by have := HG1.out.1; omega) t
     rw [← HW0.out] at this
     have h5 : 2 ^ (64 * p) * t = 2 ^ (64 * p) * s + 2 ^ (64 * p) * w0 := by rw [HT.out, Nat.mul_add]
     omega)
    have HS2 := yk (show nv (L.take (i + 1)) * 2 ^ (64 * q + k) = nv o + 2 ^ (64 * p) * (x * 2 ^ k) by
     rw [nv_take_succ, HX.out, Nat.add_mul, ← HG1.out.2.2, HP.out]
     congr 1
     rw [Nat.mul_add, Nat.pow_add, Nat.pow_add]
     simp only [Nat.mul_assoc, Nat.mul_comm, Nat.mul_left_comm])
    clear h1 h2 h3 h4 hd hs ht hc' hput hw0k hsmall hw0 hdd hp
    by_cases hk0 : k = 0
    · have hkn : k ≤ 0 := by omega
      have hkd : decide (0 < (k : Int)) = false := decide_eq_false (by omega)
      have HC0 := yk (show c' = 0 by have := HC4.out; rw [hk0] at this; omega)
      clear hk0
      go_wp2
      go_region
      go_wp2
      go_roundw
      case rel => exact ⟨i + 1, o.set p t, by go_num, by omega, ⟨below_drew (HB.out.setCell HG.out _)⟩, ⟨Kd.R_drewN HO2.out 1⟩, ⟨HL2.out, HG1.out.2.1.set ht64, by
       rw [HV2.out, HS2.out]
       have h5 := HDD.out
       rw [HC0.out, Nat.mul_zero, Nat.add_zero] at h5
       rw [h5]⟩⟩
      case measure => simp [intOf]; omega
    · have hkn : 0 < k := by omega
      have hkd : decide (0 < (k : Int)) = true := decide_eq_true (by omega)
      obtain ⟨p1, hpp⟩ : ∃ p1, p1 = p + 1 := ⟨_, rfl⟩
      have hpp1 : (p : Int) + 1 = (p1 : Int) := by omega
      have hp1M : p1 < N := by omega
      have HPP := yk hpp
      obtain ⟨hv1, hv2, hput2⟩ := put_word HO2.out hp1M
      have hst2 := run_store_word (P := Tryz.prog) (u := (c' : Int)) hv1 hv2
      have HO3 := yk (hput2 c')
      have HZ2 := yk (show wd (o.set p t) p1 = 0 by rw [wd_set_ne (by omega), hpp]; exact HZ1.out)
      clear hput2 hk0 hpp
      go_wp2
      go_region
      go_wp2
      go_roundw
      case rel => exact ⟨i + 1, (o.set p t).set p1 c', by go_num, by omega, ⟨by first | exact (below_drew (HB.out.setCell HG.out _)).setCell HG.out _ | exact below_drew ((HB.out.setCell HG.out _).setCell HG.out _)⟩, ⟨by first | exact HO3.out | exact Kd.R_drewN HO3.out 1⟩, ⟨by rw [List.length_set]; exact HL2.out, (HG1.out.2.1.set ht64).set hc64, by
       rw [nv_set2 (by rw [HL2.out]; exact hp1M) c' HZ2.out, HV2.out, HS2.out, ← HDD.out, HPP.out, Nat.add_assoc, shl_two]⟩⟩
      case measure => simp [intOf]; omega
  · obtain rfl : i = n1 := by omega
    have HF := yk (show nv o = nv a * 2 ^ n by rw [HG1.out.2.2, nv_take_all (by rw [NL.out]; omega), VL.out, ← HNK.out])
    have QT := yk (trim_own HO1.out HG1.out.2.1 (by omega))
    go_wp2_with (go_at_call 109; refine QT.out.mono ?_; rintro e w5 ⟨v, rfl, ho, n5, rfl⟩; rw [HF.out] at ho; have HOO := yk ho; clear ho)
    go_ret
    have HB4 := below_then W2.out W2.out.size HB.out
    exact ⟨_, rfl, HOO.out.lower W2.out.size, pw_below_drewN HB4 _⟩
end Go.Proofs.YtkdicconchobfaaGreatDoor
