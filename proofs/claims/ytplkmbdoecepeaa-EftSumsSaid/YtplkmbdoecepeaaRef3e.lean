/- The document's naturals (ulpref03): the walks of times and Mul. -/
import Derived.Test.YtplkmbdoecepeaaRef3a
namespace Go.Proofs.Ytplkmbdoecepeaa
open Go.RowKit Go.Proofs.YtplkmbdoecepeaaW.PrintWords Limb
set_option linter.unusedVariables false
set_option linter.unusedSimpArgs false

theorem nat_tdiv (x : Nat) : (x : Int).tdiv 4294967296 = ((x / 4294967296 : Nat) : Int) := by rw [Int.tdiv_eq_ediv_of_nonneg (by omega)]; omega
theorem nat_tmod (x : Nat) : (x : Int).tmod 4294967296 = ((x % 4294967296 : Nat) : Int) := by rw [Int.tmod_eq_emod_of_nonneg (by omega)]; omega
theorem nat_wrap {x : Nat} (h : x ≤ 18446744073709551615) {y : Int} (e : y = (x : Int)) : IntKind.u64.wrap y = (x : Int) := by subst e; exact wrap_u64 (by omega) (by omega)

theorem times_arith {x y a b c d ac bc ad bd mid oth : Nat} (hx : x = a + 4294967296 * b) (hy : y = c + 4294967296 * d) (e1 : ac = a * c) (e2 : bc = b * c) (e3 : ad = a * d) (e4 : bd = b * d) (e5 : mid = bc + ac / 4294967296) (e6 : oth = ad + mid % 4294967296) :
    (ac % 4294967296 + oth % 4294967296 * 4294967296) + 2 ^ 64 * (bd + mid / 4294967296 + oth / 4294967296) = x * y := by
  have h1 := Nat.div_add_mod ac 4294967296
  have h2 := Nat.div_add_mod mid 4294967296
  have h3 := Nat.div_add_mod oth 4294967296
  have e : x * y = ac + 4294967296 * (bc + ad) + 4294967296 * 4294967296 * bd := by rw [hx, hy, e1, e2, e3, e4]; grind
  rw [e]
  omega

set_option maxHeartbeats 1000000 in
theorem times_any (x y : Nat) (hx : x < 18446744073709551616) (hy : y < 18446744073709551616) (w : World) :
    Calls Try.prog 56 #[.int .u64 (x : Int), .int .u64 (y : Int)] w fun e w' => (∃ lo hi : Nat, e = .returned (.tuple #[.int .u64 (lo : Int), .int .u64 (hi : Int)]) ∧ lo < 18446744073709551616 ∧ hi < 18446744073709551616 ∧ lo + 18446744073709551616 * hi = x * y) ∧ ∃ n, w' = w.drewN n := by
  obtain ⟨a, ha⟩ : ∃ a, a = x % 4294967296 := ⟨_, rfl⟩
  obtain ⟨b, hb⟩ : ∃ b, b = x / 4294967296 := ⟨_, rfl⟩
  obtain ⟨c, hc⟩ : ∃ c, c = y % 4294967296 := ⟨_, rfl⟩
  obtain ⟨d, hd⟩ : ∃ d, d = y / 4294967296 := ⟨_, rfl⟩
  have ha1 : a ≤ 4294967295 := by omega
  have hb1 : b ≤ 4294967295 := by omega
  have hc1 : c ≤ 4294967295 := by omega
  have hd1 : d ≤ 4294967295 := by omega
  have ea : (x : Int).tmod 4294967296 = (a : Int) := by rw [nat_tmod, ha]
  have eb : (x : Int).tdiv 4294967296 = (b : Int) := by rw [nat_tdiv, hb]
  have ec : (y : Int).tmod 4294967296 = (c : Int) := by rw [nat_tmod, hc]
  have ed : (y : Int).tdiv 4294967296 = (d : Int) := by rw [nat_tdiv, hd]
  have HX := Aside0.mk (show x = a + 4294967296 * b by omega)
  have HY := Aside0.mk (show y = c + 4294967296 * d by omega)
  clear ha hb hc hd
  have mul_le : ∀ {u v : Nat}, u ≤ 4294967295 → v ≤ 4294967295 → u * v ≤ 18446744065119617025 := fun h1 h2 => Nat.mul_le_mul h1 h2
  obtain ⟨ac, hac⟩ : ∃ ac, ac = a * c := ⟨_, rfl⟩
  obtain ⟨bc, hbc⟩ : ∃ bc, bc = b * c := ⟨_, rfl⟩
  obtain ⟨ad, had⟩ : ∃ ad, ad = a * d := ⟨_, rfl⟩
  obtain ⟨bd, hbd⟩ : ∃ bd, bd = b * d := ⟨_, rfl⟩
  have lac : ac ≤ 18446744065119617025 := hac ▸ mul_le ha1 hc1
  have lbc : bc ≤ 18446744065119617025 := hbc ▸ mul_le hb1 hc1
  have lad : ad ≤ 18446744065119617025 := had ▸ mul_le ha1 hd1
  have lbd : bd ≤ 18446744065119617025 := hbd ▸ mul_le hb1 hd1
  have e1 : IntKind.u64.wrap ((a : Int) * c) = (ac : Int) := nat_wrap (by omega) (by rw [hac]; simp)
  have e2 : IntKind.u64.wrap ((b : Int) * c) = (bc : Int) := nat_wrap (by omega) (by rw [hbc]; simp)
  have e3 : IntKind.u64.wrap ((a : Int) * d) = (ad : Int) := nat_wrap (by omega) (by rw [had]; simp)
  have e4 : IntKind.u64.wrap ((b : Int) * d) = (bd : Int) := nat_wrap (by omega) (by rw [hbd]; simp)
  have f1 : (ac : Int).tdiv 4294967296 = ((ac / 4294967296 : Nat) : Int) := nat_tdiv ac
  have f2 : (ac : Int).tmod 4294967296 = ((ac % 4294967296 : Nat) : Int) := nat_tmod ac
  obtain ⟨aq, haq⟩ : ∃ aq, aq = ac / 4294967296 := ⟨_, rfl⟩
  obtain ⟨ar, har⟩ : ∃ ar, ar = ac % 4294967296 := ⟨_, rfl⟩
  rw [← haq] at f1
  rw [← har] at f2
  have laq : aq ≤ 4294967295 := by omega
  have lar : ar ≤ 4294967295 := by omega
  obtain ⟨mid, hmid⟩ : ∃ mid, mid = bc + aq := ⟨_, rfl⟩
  have lmid : mid ≤ 18446744069414584320 := by omega
  have e5 : IntKind.u64.wrap ((bc : Int) + aq) = (mid : Int) := nat_wrap (by omega) (by omega)
  have f3 : (mid : Int).tdiv 4294967296 = ((mid / 4294967296 : Nat) : Int) := nat_tdiv mid
  have f4 : (mid : Int).tmod 4294967296 = ((mid % 4294967296 : Nat) : Int) := nat_tmod mid
  obtain ⟨mq, hmq⟩ : ∃ mq, mq = mid / 4294967296 := ⟨_, rfl⟩
  obtain ⟨mr, hmr⟩ : ∃ mr, mr = mid % 4294967296 := ⟨_, rfl⟩
  rw [← hmq] at f3
  rw [← hmr] at f4
  have lmq : mq ≤ 4294967295 := by omega
  have lmr : mr ≤ 4294967295 := by omega
  obtain ⟨oth, hoth⟩ : ∃ oth, oth = ad + mr := ⟨_, rfl⟩
  have loth : oth ≤ 18446744069414584320 := by omega
  have e6 : IntKind.u64.wrap ((ad : Int) + mr) = (oth : Int) := nat_wrap (by omega) (by omega)
  have f5 : (oth : Int).tdiv 4294967296 = ((oth / 4294967296 : Nat) : Int) := nat_tdiv oth
  have f6 : (oth : Int).tmod 4294967296 = ((oth % 4294967296 : Nat) : Int) := nat_tmod oth
  obtain ⟨oq, hoq⟩ : ∃ oq, oq = oth / 4294967296 := ⟨_, rfl⟩
  obtain ⟨o0, ho0⟩ : ∃ o0, o0 = oth % 4294967296 := ⟨_, rfl⟩
  rw [← hoq] at f5
  rw [← ho0] at f6
  have loq : oq ≤ 4294967295 := by omega
  have lo0 : o0 ≤ 4294967295 := by omega
  have HT : Aside0 ((ar + o0 * 4294967296) + 18446744073709551616 * (bd + mq + oq) = x * y) := ⟨by
    have := times_arith (mid := mid) (oth := oth) HX.out HY.out hac hbc had hbd (by omega) (by omega)
    omega⟩
  have lhi : bd + mq + oq ≤ 18446744073709551615 := by
    have h1 := HT.out
    have h2 : x * y < 18446744073709551616 * 18446744073709551616 := Nat.mul_lt_mul'' hx hy
    rw [← h1] at h2
    omega
  obtain ⟨low, hlow⟩ : ∃ low, low = ar + o0 * 4294967296 := ⟨_, rfl⟩
  have llow : low ≤ 18446744073709551615 := by omega
  have e7 : IntKind.u64.wrap ((o0 : Int) * 4294967296) = ((o0 * 4294967296 : Nat) : Int) := nat_wrap (by omega) (by omega)
  have e8 : IntKind.u64.wrap ((ar : Int) + (o0 * 4294967296 : Nat)) = (low : Int) := nat_wrap (by omega) (by omega)
  have e9 : IntKind.u64.wrap ((ar : Int) + (o0 : Int) * 4294967296) = (low : Int) := nat_wrap (by omega) (by omega)
  rw [← hlow] at HT
  clear hac hbc had hbd haq har hmid hmq hmr hoth hoq ho0 hlow mul_le hx hy
  go_enter Try.func56, Try.ntmps56
  go_wp2
  go_ret2
  exact ⟨⟨low, bd + mq + oq, rfl, by omega, by omega, HT.out⟩, ⟨0, rfl⟩⟩
end Go.Proofs.Ytplkmbdoecepeaa
