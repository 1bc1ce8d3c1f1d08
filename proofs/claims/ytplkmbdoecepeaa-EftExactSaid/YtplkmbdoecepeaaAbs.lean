/- math.Abs of a finite float. -/
import Derived.Test.YtplkmbdoecepeaaNumber
import Derived.Laws.BitsAllLaws
namespace Go.Proofs.Ytplkmbdoecepeaa
open Go.RowKit Go.Proofs.YtplkmbdoecepeaaW.PrintWords Limb Ieee EftPure
set_option linter.unusedVariables false
set_option linter.unusedSimpArgs false

theorem isF_abs {x : Nat} {A : Int} (h : IsF x A) : IsF (x % 9223372036854775808) (A.natAbs : Int) := by
  obtain ⟨s, m, k, hr, hA, hm⟩ := h
  refine ⟨false, m, k, ?_, ?_, hm⟩
  · unfold Format.read at hr ⊢
    simp only [lp, bn, ir, sw] at hr ⊢
    have e1 : x % 9223372036854775808 % 2 ^ 63 = x % 2 ^ 63 := by omega
    have e2 : (x % 9223372036854775808 / 2 ^ 63 % 2 == 1) = false := by
      have : x % 9223372036854775808 / 2 ^ 63 = 0 := by omega
      rw [this]; rfl
    rw [e1, e2]
    split at hr
    · rename_i h1
      rw [if_pos h1]
      injection hr with q1 q2 q3
      rw [q2, q3]
    · rename_i h1
      rw [if_neg h1]
      split at hr
      · rename_i h2
        rw [if_pos h2]
        injection hr with q1 q2 q3
        rw [q2, q3]
      · split at hr <;> cases hr
  · rw [hA, signed_abs, signed_eq]; simp

theorem andNot_top (x : Nat) (hx : x < 18446744073709551616) : bits .andNot .u64 (x : Int) 9223372036854775808 = ((x % 9223372036854775808 : Nat) : Int) := by
  have h := u64_andNot_nat x 9223372036854775808 hx (by decide)
  have e : x &&& (18446744073709551615 - 9223372036854775808) = x % 9223372036854775808 := Nat.and_two_pow_sub_one_eq_mod x 63
  rw [e] at h
  exact h

set_option maxHeartbeats 1000000 in
theorem abs_any (x : Nat) (hx : x < 18446744073709551616) (w : World) :
    Calls Try.prog 26 #[.float .f64 x] w fun e w' => e = .returned (.float .f64 (x % 9223372036854775808)) ∧ ∃ n, w' = w.drewN n := by
  have hbits : ∀ (b : Nat) (w : World), (callFunc 40 #[.float .f64 b]).run Try.prog w = .ok (.value (.int .u64 b)) w := fun b w => by rw [run_callFunc_extern Try.func40 (by kernel_rfl) (by kernel_rfl) (by kernel_rfl) (e := Extern.MathFloatBits.float64bits) (by kernel_rfl)]; rfl
  have hfrom : ∀ (b : Nat) (w : World), (callFunc 48 #[.int .u64 (b : Int)]).run Try.prog w = .ok (.value (.float .f64 b)) w := fun b w => by rw [run_callFunc_extern Try.func48 (by kernel_rfl) (by kernel_rfl) (by kernel_rfl) (e := Extern.MathFloatBits.float64frombits) (by kernel_rfl)]; rfl
  have hb := andNot_top x hx
  obtain ⟨y, hy⟩ : ∃ y, y = x % 9223372036854775808 := ⟨_, rfl⟩
  rw [← hy] at hb ⊢
  clear hy
  go_enter Try.func26, Try.ntmps26
  go_wp2
  go_ret
  exact ⟨rfl, ⟨0, rfl⟩⟩
end Go.Proofs.Ytplkmbdoecepeaa
