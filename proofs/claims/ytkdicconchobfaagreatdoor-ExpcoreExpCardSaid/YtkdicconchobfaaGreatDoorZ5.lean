/- Part 5 of the library of this claim: what the program and the document compute, as contracts of their functions. -/
import Derived.Test.YtkdicconchobfaaGreatDoorZ4
import Derived.KernelRfl
import Derived.Deep.DeepCutAuto
set_option maxRecDepth 100000
set_option maxHeartbeats 8000000
namespace Go.Proofs.YtkdicconchobfaaGreatDoor
open Go Go.RowKit Go.Proofs.YtkdicconchobfaaGreatDoorW.PrintWords Limb Exq
set_option linter.unusedVariables false
set_option linter.unusedSimpArgs false
theorem RDy.ex {w : World} {b : Nat} {v : Value} {z e : Int} (h : RDy w b v z e) : ∃ bb A n c x, v = .agg #[.bool bb, .slice A n c, .int .i64 x] := by
 obtain ⟨A, n, c, rfl, hr⟩ := h
 exact ⟨_, _, _, _, _, rfl⟩
theorem RDy.grown_box {w w1 : World} {b g : Nat} {v : Value} {z e : Int} {t : TypeId} {cells : Array Value} (h : RDy w b v z e) (hb : w.heap[g]? = some (.cells cells t (0, 0))) (ht : 64 ≠ t) (hg : w.grownBy w1 (some g)) : RDy w1 b v z e := by
 obtain ⟨A, n, c, rfl, hr⟩ := h
 refine ⟨A, n, c, rfl, Kd.R_mono (Kd.R_grown (Kd.R_types hr hb ?_) hg ?_) (fun _ _ => trivial)⟩
 · intro q hq
   rcases List.mem_cons.1 hq with rfl | hq
   · exact ht
   · cases hq
 · rintro k ⟨_, hk⟩ he
   cases he
   exact hk rfl
theorem dint_neg {n : Int} (w : World) (hn : n < 0) (h1 : -9223372036854775808 ≤ n) (h2 : n < 9223372036854775808) :
 Calls Tryz.prog 21 #[.int .i64 n] w fun en w' => ∃ v', en = .returned v' ∧ RDy w' w.heap.size v' n 0 ∧ BL w w' := by
 obtain ⟨m, hm⟩ : ∃ m, m = n.natAbs := ⟨_, rfl⟩
 have hm64 : m < 18446744073709551616 := by omega
 have QO := yk (fun (W : World) => of_any m hm64 W)
 have QF := yk (fun (A : Option Addr) (c : Nat) (W : World) (hC : kU.C W A (limbs m).length (limbs m)) (hc : (limbs m).length ≤ c) => (by
  have hl : (limbs m).length ≤ 1 := limbs_len_le (by omega)
  have q := form_any (decide (n < 0)) (limbs m) A _ c 0 rfl W hC hc (wf_limbs _) (by omega) (by omega) (by omega)
  rw [nv_limbs, hm, show sgn (decide (n < 0)) n.natAbs = n from sgn_self n, ← hm] at q
  exact q : Calls Tryz.prog 46 #[.bool (decide (n < 0)), .slice A (limbs m).length c, .int .i64 0] W fun en w' => ∃ v', en = .returned v' ∧ RDy w' W.heap.size v' n 0 ∧ BL W w'))
 obtain ⟨a0, e1, e2⟩ : ∃ a0 : Nat, IntKind.u64.wrap n = (a0 : Int) ∧ IntKind.u64.wrap (-(a0 : Int)) = (m : Int) := ⟨(n % 18446744073709551616).toNat, by unfold IntKind.wrap; simp [IntKind.bits, IntKind.signed]; omega, by unfold IntKind.wrap; simp [IntKind.bits, IntKind.signed]; omega⟩
 have e3 : IntKind.u64.wrap (0 - (a0 : Int)) = (m : Int) := by rw [Int.zero_sub]; exact e2
 have hd : decide (n < 0) = true := decide_eq_true hn
 rw [hd] at QF
 clear hm h1 h2
 go_enter Tryz.func21, Tryz.ntmps21
 obtain ⟨BEL, XR⟩ := al1 w 1 #[.bool false, .slice none 0 0, .int .i64 0] 25
 go_wp2_with fail
 go_at_call 47
 refine (QO.out _).mono ?_
 rintro en1 w1 ⟨v1, rfl, ho, hb⟩
 replace BEL := yk (BEL.out.next hb)
 replace XR := yk (yb XR.out hb)
 obtain ⟨A1, c1, rfl, hc1, hC1⟩ := Kd.R_reads ho
 have HC := yk hC1
 have HCC := yk hc1
 clear ho hb hC1 hc1
 go_wp2_with fail
 go_at_call 46
 refine (QF.out _ _ _ HC.out HCC.out).mono ?_
 have BL0 := BEL
 rintro en2 w2 ⟨v2, rfl, hr, hb⟩
 replace BEL := yk (BEL.out.next hb)
 replace XR := yk (yb XR.out hb)
 have P2 := yk hr
 obtain ⟨b2, A2, n2, c2, x2, rfl⟩ := hr.ex
 clear hr hb
 go_wp2_with (((with_reducible refine gate_store (p := 2) rfl ?_); go_must (refine sdy 2 (.tmp 9) rfl rfl rfl rfl rfl XR.out rfl ?_; intro wb HX HG)); replace P2 := yk (P2.out.grown_box XR.out (by decide) HG.out); replace BEL := yk (BEL.out.grown HG.out (by omega)); replace XR := HX; clear HG)
 refine bodyPost_ret (results_dyad rfl _ _ (w.heap.size) _ rfl XR.out rfl) rfl ?_
 exact ⟨_, rfl, P2.out.lower BL0.out.1.size, BEL.out.1⟩
theorem dint_pos {n : Int} (w : World) (hn : ¬ n < 0) (h1 : -9223372036854775808 ≤ n) (h2 : n < 9223372036854775808) :
 Calls Tryz.prog 21 #[.int .i64 n] w fun en w' => ∃ v', en = .returned v' ∧ RDy w' w.heap.size v' n 0 ∧ BL w w' := by
 obtain ⟨m, hm⟩ : ∃ m, m = n.natAbs := ⟨_, rfl⟩
 have hm64 : m < 18446744073709551616 := by omega
 have QO := yk (fun (W : World) => of_any m hm64 W)
 have QF := yk (fun (A : Option Addr) (c : Nat) (W : World) (hC : kU.C W A (limbs m).length (limbs m)) (hc : (limbs m).length ≤ c) => (by
  have hl : (limbs m).length ≤ 1 := limbs_len_le (by omega)
  have q := form_any (decide (n < 0)) (limbs m) A _ c 0 rfl W hC hc (wf_limbs _) (by omega) (by omega) (by omega)
  rw [nv_limbs, hm, show sgn (decide (n < 0)) n.natAbs = n from sgn_self n, ← hm] at q
  exact q : Calls Tryz.prog 46 #[.bool (decide (n < 0)), .slice A (limbs m).length c, .int .i64 0] W fun en w' => ∃ v', en = .returned v' ∧ RDy w' W.heap.size v' n 0 ∧ BL W w'))
 have e1 : IntKind.u64.wrap n = (m : Int) := by unfold IntKind.wrap; simp [IntKind.bits, IntKind.signed]; omega
 have hd : decide (n < 0) = false := decide_eq_false hn
 have hn2 : 0 ≤ n := by omega
 rw [hd] at QF
 clear hm h1 h2 hn
 go_enter Tryz.func21, Tryz.ntmps21
 obtain ⟨BEL, XR⟩ := al1 w 1 #[.bool false, .slice none 0 0, .int .i64 0] 25
 go_wp2_with fail
 go_at_call 47
 refine (QO.out _).mono ?_
 rintro en1 w1 ⟨v1, rfl, ho, hb⟩
 replace BEL := yk (BEL.out.next hb)
 replace XR := yk (yb XR.out hb)
 obtain ⟨A1, c1, rfl, hc1, hC1⟩ := Kd.R_reads ho
 have HC := yk hC1
 have HCC := yk hc1
 clear ho hb hC1 hc1
 go_wp2_with fail
 go_at_call 46
 refine (QF.out _ _ _ HC.out HCC.out).mono ?_
 have BL0 := BEL
 rintro en2 w2 ⟨v2, rfl, hr, hb⟩
 replace BEL := yk (BEL.out.next hb)
 replace XR := yk (yb XR.out hb)
 have P2 := yk hr
 obtain ⟨b2, A2, n2, c2, x2, rfl⟩ := hr.ex
 clear hr hb
 go_wp2_with (((with_reducible refine gate_store (p := 2) rfl ?_); go_must (refine sdy 2 (.tmp 13) rfl rfl rfl rfl rfl XR.out rfl ?_; intro wb HX HG)); replace P2 := yk (P2.out.grown_box XR.out (by decide) HG.out); replace BEL := yk (BEL.out.grown HG.out (by omega)); replace XR := HX; clear HG)
 refine bodyPost_ret (results_dyad rfl _ _ (w.heap.size) _ rfl XR.out rfl) rfl ?_
 exact ⟨_, rfl, P2.out.lower BL0.out.1.size, BEL.out.1⟩
theorem dint_any (n : Int) (w : World) (h1 : -9223372036854775808 ≤ n) (h2 : n < 9223372036854775808) :
 Calls Tryz.prog 21 #[.int .i64 n] w fun en w' => ∃ v', en = .returned v' ∧ RDy w' w.heap.size v' n 0 ∧ BL w w' := by
 by_cases hn : n < 0
 · exact dint_neg w hn h1 h2
 · exact dint_pos w hn h1 h2
def fewP (v : Int) : Prop := cman v < 2 ^ 54
def FewG (G : Int → Option (Int × Int)) : Prop := ∀ z v e, z.natAbs < 2 ^ 2098 → G z = some (v, e) → fewP v
def OkG (G : Int → Option (Int × Int)) : Prop := ∀ z v e, z.natAbs < 2 ^ 2098 → G z = some (v, e) → Ok v e
def ordS (a b : Int) : Int := if a < b then -1 else if b < a then 1 else 0
def NDy (w : World) (v : Value) (z e : Int) : Prop := ∃ (b : Bool) (l : List Nat) (A : Option Addr) (n c : Nat) (x : Int), v = .agg #[.bool b, .slice A n c, .int .i64 x] ∧ kU.C w A n l ∧ l.length = n ∧ n ≤ c ∧ Wf l ∧ n ≤ 1024 ∧ -1048576 ≤ x ∧ x ≤ 1048576 ∧ ((nv l = 0 ∧ z = 0) ∨ ∃ k : Nat, x = e + k ∧ z = sgn b (nv l) * 2 ^ k)
theorem nat_tdiv (x : Nat) : (x : Int).tdiv 4294967296 = ((x / 4294967296 : Nat) : Int) := by rw [Int.tdiv_eq_ediv_of_nonneg (by omega)]; omega
theorem nat_tmod (x : Nat) : (x : Int).tmod 4294967296 = ((x % 4294967296 : Nat) : Int) := by rw [Int.tmod_eq_emod_of_nonneg (by omega)]; omega
theorem nat_wrap {x : Nat} (h : x ≤ 18446744073709551615) {y : Int} (e : y = (x : Int)) : IntKind.u64.wrap y = (x : Int) := by subst e; exact wrap_u64 (by omega) (by omega)
theorem times_arith {x y a b c d ac bc ad bd mid oth : Nat} (hx : x = a + 4294967296 * b) (hy : y = c + 4294967296 * d) (e1 : ac = a * c) (e2 : bc = b * c) (e3 : ad = a * d) (e4 : bd = b * d) (e5 : mid = bc + ac / 4294967296) (e6 : oth = ad + mid % 4294967296) :
 (ac % 4294967296 + oth % 4294967296 * 4294967296) + 2 ^ 64 * (bd + mid / 4294967296 + oth / 4294967296) = x * y := by
 have h1 := Nat.div_add_mod ac 4294967296
 have h2 := Nat.div_add_mod mid 4294967296
 have h3 := Nat.div_add_mod oth 4294967296
 have e : x * y = ac + 4294967296 * (bc + ad) + 4294967296 * 4294967296 * bd := by rw [hx, hy, e1, e2, e3, e4]; grind
 rw [e]
 omega
theorem times_any (x y : Nat) (hx : x < 18446744073709551616) (hy : y < 18446744073709551616) (w : World) :
 Calls Tryz.prog 136 #[.int .u64 (x : Int), .int .u64 (y : Int)] w fun e w' => (∃ lo hi : Nat, e = .returned (.tuple #[.int .u64 (lo : Int), .int .u64 (hi : Int)]) ∧ lo < 18446744073709551616 ∧ hi < 18446744073709551616 ∧ lo + 18446744073709551616 * hi = x * y) ∧ ∃ n, w' = w.drewN n := by
 obtain ⟨a, ha⟩ : ∃ a, a = x % 4294967296 := ⟨_, rfl⟩
 obtain ⟨b, hb⟩ : ∃ b, b = x / 4294967296 := ⟨_, rfl⟩
 obtain ⟨c, hc⟩ : ∃ c, c = y % 4294967296 := ⟨_, rfl⟩
 obtain ⟨d, hd⟩ : ∃ d, d = y / 4294967296 := ⟨_, rfl⟩
 have ha1 : a ≤ 4294967295 := by omega
 have hb1 : b ≤ 4294967295 := by omega
 have hc1 : c ≤ 4294967295 := by omega
 have hd1 : d ≤ 4294967295 := by omega
 have ea : (x : Int).tmod 4294967296 = (a : Int) := by rw [nat_tmod, ha]
 have eb : (x : Int).tdiv 4294967296 = (b : Int) := by rw [nat_tdiv, hb]
 have ec : (y : Int).tmod 4294967296 = (c : Int) := by rw [nat_tmod, hc]
 have ed : (y : Int).tdiv 4294967296 = (d : Int) := by rw [nat_tdiv, hd]
 have HX := yk (show x = a + 4294967296 * b by omega)
 have HY := yk (show y = c + 4294967296 * d by omega)
 clear ha hb hc hd
 have mul_le : ∀ {u v : Nat}, u ≤ 4294967295 → v ≤ 4294967295 → u * v ≤ 18446744065119617025 := fun h1 h2 => Nat.mul_le_mul h1 h2
 obtain ⟨ac, hac⟩ : ∃ ac, ac = a * c := ⟨_, rfl⟩
 obtain ⟨bc, hbc⟩ : ∃ bc, bc = b * c := ⟨_, rfl⟩
 obtain ⟨ad, had⟩ : ∃ ad, ad = a * d := ⟨_, rfl⟩
 obtain ⟨bd, hbd⟩ : ∃ bd, bd = b * d := ⟨_, rfl⟩
 have lac : ac ≤ 18446744065119617025 := hac ▸ mul_le ha1 hc1
 have lbc : bc ≤ 18446744065119617025 := hbc ▸ mul_le hb1 hc1
 have lad : ad ≤ 18446744065119617025 := had ▸ mul_le ha1 hd1
 have lbd : bd ≤ 18446744065119617025 := hbd ▸ mul_le hb1 hd1
 have e1 : IntKind.u64.wrap ((a : Int) * c) = (ac : Int) := nat_wrap (by omega) (by rw [hac]; simp)
 have e2 : IntKind.u64.wrap ((b : Int) * c) = (bc : Int) := nat_wrap (by omega) (by rw [hbc]; simp)
 have e3 : IntKind.u64.wrap ((a : Int) * d) = (ad : Int) := nat_wrap (by omega) (by rw [had]; simp)
 have e4 : IntKind.u64.wrap ((b : Int) * d) = (bd : Int) := nat_wrap (by omega) (by rw [hbd]; simp)
 have f1 : (ac : Int).tdiv 4294967296 = ((ac / 4294967296 : Nat) : Int) := nat_tdiv ac
 have f2 : (ac : Int).tmod 4294967296 = ((ac % 4294967296 : Nat) : Int) := nat_tmod ac
 obtain ⟨aq, haq⟩ : ∃ aq, aq = ac / 4294967296 := ⟨_, rfl⟩
 obtain ⟨ar, har⟩ : ∃ ar, ar = ac % 4294967296 := ⟨_, rfl⟩
 rw [← haq] at f1
 rw [← har] at f2
 have laq : aq ≤ 4294967295 := by omega
 have lar : ar ≤ 4294967295 := by omega
 obtain ⟨mid, hmid⟩ : ∃ mid, mid = bc + aq := ⟨_, rfl⟩
 have lmid : mid ≤ 18446744069414584320 := by omega
 have e5 : IntKind.u64.wrap ((bc : Int) + aq) = (mid : Int) := nat_wrap (by omega) (by omega)
 have f3 : (mid : Int).tdiv 4294967296 = ((mid / 4294967296 : Nat) : Int) := nat_tdiv mid
 have f4 : (mid : Int).tmod 4294967296 = ((mid % 4294967296 : Nat) : Int) := nat_tmod mid
 obtain ⟨mq, hmq⟩ : ∃ mq, mq = mid / 4294967296 := ⟨_, rfl⟩
 obtain ⟨mr, hmr⟩ : ∃ mr, mr = mid % 4294967296 := ⟨_, rfl⟩
 rw [← hmq] at f3
 rw [← hmr] at f4
 have lmq : mq ≤ 4294967295 := by omega
 have lmr : mr ≤ 4294967295 := by omega
 obtain ⟨oth, hoth⟩ : ∃ oth, oth = ad + mr := ⟨_, rfl⟩
 have loth : oth ≤ 18446744069414584320 := by omega
 have e6 : IntKind.u64.wrap ((ad : Int) + mr) = (oth : Int) := nat_wrap (by omega) (by omega)
 have f5 : (oth : Int).tdiv 4294967296 = ((oth / 4294967296 : Nat) : Int) := nat_tdiv oth
 have f6 : (oth : Int).tmod 4294967296 = ((oth % 4294967296 : Nat) : Int) := nat_tmod oth
 obtain ⟨oq, hoq⟩ : ∃ oq, oq = oth / 4294967296 := ⟨_, rfl⟩
 obtain ⟨o0, ho0⟩ : ∃ o0, o0 = oth % 4294967296 := ⟨_, rfl⟩
 rw [← hoq] at f5
 rw [← ho0] at f6
 have loq : oq ≤ 4294967295 := by omega
 have lo0 : o0 ≤ 4294967295 := by omega
 have HT : Aside0 ((ar + o0 * 4294967296) + 18446744073709551616 * (bd + mq + oq) = x * y) := ⟨by
  have := times_arith (mid := mid) (oth := oth) HX.out HY.out hac hbc had hbd (by omega) (by omega)
  omega⟩
 have lhi : bd + mq + oq ≤ 18446744073709551615 := by
  have h1 := HT.out
  have h2 : x * y < 18446744073709551616 * 18446744073709551616 := Nat.mul_lt_mul'' hx hy
  rw [← h1] at h2
  omega
 obtain ⟨low, hlow⟩ : ∃ low, low = ar + o0 * 4294967296 := ⟨_, rfl⟩
 have llow : low ≤ 18446744073709551615 := by omega
 have e7 : IntKind.u64.wrap ((o0 : Int) * 4294967296) = ((o0 * 4294967296 : Nat) : Int) := nat_wrap (by omega) (by omega)
 have e8 : IntKind.u64.wrap ((ar : Int) + (o0 * 4294967296 : Nat)) = (low : Int) := nat_wrap (by omega) (by omega)
 have e9 : IntKind.u64.wrap ((ar : Int) + (o0 : Int) * 4294967296) = (low : Int) := nat_wrap (by omega) (by omega)
 rw [← hlow] at HT
 clear hac hbc had hbd haq har hmid hmq hmr hoth hoq ho0 hlow mul_le hx hy
 go_enter Tryz.func136, Tryz.ntmps136
 go_wp2
 go_ret2
 exact ⟨⟨low, bd + mq + oq, rfl, by omega, by omega, HT.out⟩, ⟨0, rfl⟩⟩
theorem norm_read (l : List Nat) (A : Option Addr) (n c N : Nat) (L : List Nat) (hn : l.length = n) (hL : L = limbs (nv l)) (hN : N = L.length) (w m : World) (hr : kU.C w A n l) (hc : n ≤ c) (hw : Wf l) (hl : n ≤ 4294967296) (hb : BL w m) :
 Calls Tryz.prog 89 #[.slice A n c] m fun e w' => ∃ A1 c1, e = .returned (.slice A1 N c1) ∧ N ≤ c1 ∧ kU.C w' A1 N L ∧ BL w w' ∧ BL m w' := by
 subst hn hL hN
 refine (norm_any l A c m (Kd.C_below hr hb) hc hw hl).mono ?_
 rintro e w' ⟨v, rfl, ho, hb2⟩
 obtain ⟨A1, c1, rfl, hc1, hC1⟩ := Kd.R_reads ho
 exact ⟨A1, c1, rfl, hc1, hC1, below_then hb hb.size hb2, hb2⟩
theorem times_is (x y lo hi : Nat) (hx : x < 18446744073709551616) (hy : y < 18446744073709551616) (h1 : lo < 18446744073709551616) (h2 : lo + 18446744073709551616 * hi = x * y) (w : World) :
 Calls Tryz.prog 136 #[.int .u64 (x : Int), .int .u64 (y : Int)] w fun e w' => e = .returned (.tuple #[.int .u64 (lo : Int), .int .u64 (hi : Int)]) ∧ ∃ n, w' = w.drewN n := by
 refine (times_any x y hx hy w).mono ?_
 rintro e w' ⟨⟨lo', hi', rfl, e1, e2, e3⟩, hn⟩
 obtain rfl : lo' = lo := by omega
 obtain rfl : hi' = hi := by omega
 exact ⟨rfl, hn⟩
theorem mul_any (a b : List Nat) (A B : Option Addr) (na nb c d : Nat) (hna : a.length = na) (hnb : b.length = nb) (w : World) (ha : kU.C w A na a) (hb : kU.C w B nb b) (hc : na ≤ c) (hd : nb ≤ d) (wa : Wf a) (wb : Wf b) (la : na ≤ 1073741824) (lb : nb ≤ 1073741824) :
 Calls Tryz.prog 107 #[.slice A na c, .slice B nb d] w fun e w' => ∃ v, e = .returned v ∧ kU.R 64 w' w.heap.size (fun _ => True) v (limbs (nv a * nv b)) ∧ BL w w' := by
 obtain ⟨L, hL⟩ : ∃ L, L = limbs (nv a) := ⟨_, rfl⟩
 obtain ⟨M, hM⟩ : ∃ M, M = limbs (nv b) := ⟨_, rfl⟩
 obtain ⟨n1, hn1⟩ : ∃ n, n = L.length := ⟨_, rfl⟩
 obtain ⟨n2, hn2⟩ : ∃ n, n = M.length := ⟨_, rfl⟩
 have ln1 : n1 ≤ 1073741824 := by have := limbs_nv_len wa; rw [hn1, hL]; omega
 have ln2 : n2 ≤ 1073741824 := by have := limbs_nv_len wb; rw [hn2, hM]; omega
 have WL := yk (show Wf L by rw [hL]; exact wf_limbs _)
 have WM := yk (show Wf M by rw [hM]; exact wf_limbs _)
 have VL := yk (show nv L = nv a by rw [hL, nv_limbs])
 have VM := yk (show nv M = nv b by rw [hM, nv_limbs])
 have NL := yk hn1.symm
 have NM := yk hn2.symm
 have QA := yk (fun m hB => norm_read a A na c n1 L hna hL hn1 w m ha hc wa (by omega) hB)
 have QB := yk (fun m hB => norm_read b B nb d n2 M hnb hM hn2 w m hb hd wb (by omega) hB)
 obtain ⟨N, hN⟩ : ∃ N, N = n1 + n2 + 1 := ⟨_, rfl⟩
 have hN1 : (n1 : Int) + n2 + 1 = (N : Int) := by omega
 have hN2 : N ≤ 2147483649 := by omega
 have hN3 : n1 + n2 < N := by omega
 have HN := yk hN
 clear ha hb wa wb hna hnb hL hM hn1 hn2 hc hd la lb hN
 go_enter Tryz.func107, Tryz.ntmps107
 go_wp2_with (first
  | (go_at_call 89; first
    | (with_reducible refine (QA.out _ ?hB).mono ?_; (case hB => first | exact Below.refl _ _ | exact pw_below_drewN yr _); rintro e w_1 ⟨A1, c1, rfl, hc1, hC1, hB1, _⟩; have C1 := yk hC1; have B1 := yk hB1; clear hC1 hB1)
    | (with_reducible refine (QB.out _ ?hB).mono ?_; (case hB => first | exact B1.out | exact pw_below_drewN B1.out _); rintro e w_2 ⟨A2, c2, rfl, hc2, hC2, hB2, hB2'⟩; have C2 := yk hC2; have B2 := yk hB2; have C1' := yk (Kd.C_below C1.out (by first | exact hB2' | exact below_of_drewN hB2')); clear hC2 hB2 hB2'))
  | ((with_reducible refine gate_dst (N := 25) rfl ?_); go_must (refine Kd.R_make kU (w0 := w_2) w_2.heap.size 64 rfl rfl 23 (.tmp 24) (.tmp 24) rfl (N : Int) ?mx ?my Tryz.underlying23 (.int .u64 0) 8 info_word rfl (by decide) (by decide) 0 (ok := fun _ => True) (okp := fun _ => False) ?mz (fun _ h => h.elim) trivial (by omega) ?ml yr (Nat.le_refl _) ?_; (case mx => rfl); (case my => rfl); (case mz => rfl); (case ml => omega); intro v_3 w_3 ho hb hg hown; obtain ⟨g, cap, rfl, hg1, hg2, _⟩ := Kd.R_form ho (by simp; omega); rw [show (List.replicate ((N : Int)).toNat (0 : Nat)).length = N by simp] at ho ⊢; have HO := yk ho; have B3 := yk hb; have HG := yk hg1; clear ho hb hg hown hg1 hg2)))
 go_loopw [28] (fun v28 wr => ∃ (k : Nat) (o : List Nat), v28 = .int .i64 k ∧ k ≤ n1 ∧ Aside0 (BL w_2 wr) ∧ Aside0 (kU.R 64 wr w_2.heap.size (fun _ => True) (.slice (some ⟨g, 0, none⟩) N cap) o) ∧ Aside0 (o.length = N ∧ Wf o ∧ nv o = nv (L.take k) * nv M)) (fun v28 _ => n1 - (intOf v28).toNat)
 case atStart => exact ⟨0, _, rfl, Nat.zero_le _, B3, HO, ⟨by simp, Wf.replicate _, by rw [nv_replicate]; simp [nv]⟩⟩
 case round =>
  obtain ⟨k, o, rfl, hk, HB, HO1, HG1⟩ := hrel
  by_cases hlt : k < n1
  · obtain ⟨ad, x, rfl, hx0, hcell⟩ := at_word (Kd.C_below C1'.out HB.out) NL.out k hlt
    have HX := yk (wd_of hx0)
    have hx64 : x < 18446744073709551616 := WL.out.get hx0
    clear hx0
    have hp0 : (k : Int) + n2 < N := by omega
    go_wp2
    go_loopw [8, 35] (fun v8 v35 wr => ∃ (j cy : Nat) (o : List Nat), v8 = .int .u64 cy ∧ v35 = .int .i64 j ∧ j ≤ n2 ∧ cy ≤ 18446744073709551615 ∧ Aside0 (BL w_2 wr) ∧ Aside0 (kU.R 64 wr w_2.heap.size (fun _ => True) (.slice (some ⟨g, 0, none⟩) N cap) o) ∧ Aside0 (o.length = N ∧ Wf o ∧ nv o + 2 ^ (64 * (k + j)) * cy = nv (L.take k) * nv M + 2 ^ (64 * k) * (x * nv (M.take j)) ∧ wd o (k + n2) = 0)) (fun _ v35 _ => n2 - (intOf v35).toNat)
    case atStart =>
     refine ⟨0, 0, o, rfl, rfl, Nat.zero_le _, by omega, HB, HO1, ⟨HG1.out.1, HG1.out.2.1, by rw [HG1.out.2.2]; simp [nv], ?_⟩⟩
     refine wd_small HG1.out.2.1 (k := k + n2) ?_ (Nat.le_refl _)
     rw [HG1.out.2.2, Nat.mul_add, Nat.pow_add]
     have h1 := nv_take_lt WL.out k
     have h2 := nv_lt WM.out
     rw [NM.out] at h2
     exact Nat.mul_lt_mul'' h1 h2
    case round =>
     clear HO1 HG1
     obtain ⟨j, cy, o, rfl, rfl, hj, hcy, HB', HO2, HG2⟩ := hrel
     by_cases hlt2 : j < n2
     · obtain ⟨bd, y, rfl, hy0, hcell2⟩ := at_word (Kd.C_below C2.out HB'.out) NM.out j hlt2
       have HY := yk (wd_of hy0)
       have hy64 : y < 18446744073709551616 := WM.out.get hy0
       clear hy0
       obtain ⟨p, hp⟩ : ∃ p, p = k + j := ⟨_, rfl⟩
       have hpN : p < N := by omega
       have hp1 : (k : Int) + j = (p : Int) := by omega
       have HP := yk hp
       obtain ⟨hw1, hw2, hput⟩ := put_word HO2.out hpN
       obtain ⟨w0, hw0⟩ : ∃ w0, w0 = wd o p := ⟨_, rfl⟩
       have hw64 : w0 < 18446744073709551616 := by rw [hw0]; exact wd_lt HG2.out.2.1 p
       rw [← hw0] at hw1
       obtain ⟨lo, hi, hlo, hlh⟩ : ∃ lo hi, lo < 18446744073709551616 ∧ lo + 18446744073709551616 * hi = x * y := ⟨x * y % 18446744073709551616, x * y / 18446744073709551616, Nat.mod_lt _ (by decide), Nat.mod_add_div _ _⟩
       have QT := yk (times_is x y lo hi hx64 hy64 hlo hlh)
       obtain ⟨s, c1', hs1, hs2, hs3, hs4⟩ : ∃ s c' : Nat, s < 18446744073709551616 ∧ c' ≤ 1 ∧ s + 18446744073709551616 * c' = w0 + lo ∧ IntKind.u64.wrap ((w0 : Int) + lo) = (s : Int) := ⟨(w0 + lo) % 18446744073709551616, (w0 + lo) / 18446744073709551616, by omega, by omega, by omega, by unfold IntKind.wrap; simp [IntKind.bits, IntKind.signed]⟩
       obtain ⟨t, c2', ht1, ht2, ht3, ht4⟩ : ∃ s' c' : Nat, s' < 18446744073709551616 ∧ c' ≤ 1 ∧ s' + 18446744073709551616 * c' = s + cy ∧ IntKind.u64.wrap ((s : Int) + cy) = (s' : Int) := ⟨(s + cy) % 18446744073709551616, (s + cy) / 18446744073709551616, by omega, by omega, by omega, by unfold IntKind.wrap; simp [IntKind.bits, IntKind.signed]⟩
       have hxy : x * y ≤ 18446744073709551615 * 18446744073709551615 := Nat.mul_le_mul (by omega) (by omega)
       have hhi : hi + c1' + c2' ≤ 18446744073709551615 := by omega
       have HT := yk (show t + 2 ^ 64 * (hi + c1' + c2') = w0 + x * y + cy by omega)
       have HW0 := yk hw0
       have hhi2 : hi ≤ 18446744073709551615 := by omega
       have hc1s : (c1' = 1 ∧ s < lo) ∨ (c1' = 0 ∧ lo ≤ s) := by omega
       have hc2s : (c2' = 1 ∧ t < cy) ∨ (c2' = 0 ∧ cy ≤ t) := by omega
       have HPUT := yk hput
       have hst := run_store_word (P := Tryz.prog) (u := (t : Int)) hw1 hw2
       clear hw0 hp hput hxy hs3 ht3 hlh
       rcases hc1s with ⟨rfl, hc1s⟩ | ⟨rfl, hc1s⟩ <;> rcases hc2s with ⟨rfl, hc2s⟩ | ⟨rfl, hc2s⟩
       all_goals
        go_wp2_with (go_at_call 136; with_reducible refine (QT.out _).mono ?_; rintro e w' ⟨rfl, n1, rfl⟩)
        go_roundw
        case rel =>
         refine ⟨j + 1, _, o.set p t, rfl, by go_num, by omega, by omega, ?hB, ?hO, ?hG⟩
         case hB => exact ⟨(pw_below_drewN HB'.out _).setCell HG.out _⟩
         case hO => exact ⟨(put_word (Kd.R_drewN HO2.out _) hpN).2.2 t⟩
         case hG =>
          have hl : p < o.length := by have := HG2.out.1; omega
          refine ⟨by simp [HG2.out.1], HG2.out.2.1.set ht1, ?_, ?_⟩
          · rw [nv_take_succ M, HY.out]
            refine mul_step HG2.out.2.2.1 ?_ HT.out
            rw [← HP.out, HW0.out]
            exact nv_set hl t
          · rw [wd_set_ne (by have := HP.out; omega)]
            exact HG2.out.2.2.2
        case measure => simp [intOf]; omega
     · obtain rfl : j = n2 := by omega
       obtain ⟨p, hp⟩ : ∃ p, p = k + j := ⟨_, rfl⟩
       have hpN : p < N := by omega
       have hp1 : (k : Int) + j = (p : Int) := by omega
       have HP := yk hp
       obtain ⟨hw1, hw2, hput⟩ := put_word HO2.out hpN
       have HPUT := yk hput
       have hst := run_store_word (P := Tryz.prog) (u := (cy : Int)) hw1 hw2
       clear hp hput
       go_wp2
       go_roundw
       case rel =>
        refine ⟨k + 1, o.set p cy, by go_num, by omega, ?hB, ?hO, ?hG⟩
        case hB => exact ⟨HB'.out.setCell HG.out _⟩
        case hO => exact ⟨HPUT.out cy⟩
        case hG =>
         have hl : p < o.length := by have := HG2.out.1; omega
         refine ⟨by simp [HG2.out.1], HG2.out.2.1.set (by omega), ?_⟩
         rw [nv_take_succ L, HX.out]
         have e1 := nv_set hl cy
         have e2 := HG2.out.2.2.2
         rw [← HP.out] at e2
         rw [e2, HP.out] at e1
         have e3 := HG2.out.2.2.1
         rw [nv_take_all (l := M) (by rw [NM.out]; omega)] at e3
         rw [HP.out]
         exact mul_row e3 rfl (by omega)
       case measure => simp [intOf]; omega
  · obtain rfl : k = n1 := by omega
    have HF := yk (show nv o = nv a * nv b by rw [HG1.out.2.2, nv_take_all (by rw [NL.out]; omega), VL.out, VM.out])
    have HR := yk (Kd.R_reads' HO1.out).2.2
    have QN := yk (norm_any o (some ⟨g, 0, none⟩) cap wr HR.out (by rw [HG1.out.1]; exact (Kd.R_reads' HO1.out).2.1) HG1.out.2.1 (by rw [HG1.out.1]; omega))
    rw [HG1.out.1] at QN
    go_wp2_with (go_at_call 89; go_must (refine QN.out.mono ?_; rintro e w1 ⟨v, rfl, ho, hb⟩; rw [HF.out] at ho; have HOO := yk ho; have HBB := yk hb; clear ho hb))
    go_ret
    have HB4 := below_then B2.out B2.out.size HB.out
    exact ⟨_, rfl, Kd.R_lower HOO.out HB4.size, below_then HB4 HB4.size HBB.out⟩
open Go Go.RowKit Go.Proofs.YtkdicconchobfaaGreatDoorW.PrintWords Limb Exq
theorem RDy.p {w : World} {b : Nat} {v : Value} {z e : Int} (h : RDy w b v z e) : PDy w b v z e := by
 obtain ⟨A, n, c, rfl, h⟩ := h; exact ⟨A, n, c, rfl, PL.of_R h⟩
theorem len_d {w : World} {v : Value} {m : Nat} (h : CN w v m) (hm : bl m ≤ 4294967296) :
 Calls Tryz.prog 90 #[v] w fun e w' => e = .returned (.int .i64 (bl m : Int)) ∧ BL w w' := by
 obtain ⟨A, n, c, rfl, h1, rfl, h3⟩ := h
 have hl := len_le (K := 67108864) hm
 have := len_any (limbs m) A c w h1 h3 (wf_limbs _) (by omega)
 rw [nv_limbs] at this
 exact this
theorem of_d (x : Nat) (hx : x < 18446744073709551616) (w : World) :
 Calls Tryz.prog 47 #[.int .u64 (x : Int)] w fun e w' => ∃ v, e = .returned v ∧ PN w' w.heap.size v x ∧ BL w w' := by
 refine (of_any x hx w).mono ?_
 rintro e w' ⟨v, rfl, h, hb⟩
 exact ⟨v, rfl, PL.of_R h, hb⟩
theorem add_d {w : World} {u v : Value} {a b : Nat} (h : CN w u a) (h' : CN w v b) (ha : bl a ≤ 4294967296) (hb : bl b ≤ 4294967296) :
 Calls Tryz.prog 54 #[u, v] w fun e w' => ∃ v, e = .returned v ∧ PN w' w.heap.size v (a + b) ∧ BL w w' := by
 obtain ⟨A, n, c, rfl, h1, rfl, h3⟩ := h
 obtain ⟨B, n', c', rfl, k1, rfl, k3⟩ := h'
 have hl := len_le (K := 67108864) ha
 have hl' := len_le (K := 67108864) hb
 have := add_any (limbs a) (limbs b) A B _ _ c c' rfl rfl w h1 k1 h3 k3 (wf_limbs _) (wf_limbs _) (by omega) (by omega)
 rw [nv_limbs, nv_limbs] at this
 exact this.mono (by rintro e w' ⟨v, rfl, h, hb⟩; exact ⟨v, rfl, PL.of_R h, hb⟩)
theorem sub_d {w : World} {u v : Value} {a b : Nat} (h : CN w u a) (h' : CN w v b) (ha : bl a ≤ 4294967296) (hba : b ≤ a) :
 Calls Tryz.prog 56 #[u, v] w fun e w' => ∃ v, e = .returned v ∧ PN w' w.heap.size v (a - b) ∧ BL w w' := by
 obtain ⟨A, n, c, rfl, h1, rfl, h3⟩ := h
 obtain ⟨B, n', c', rfl, k1, rfl, k3⟩ := h'
 have hl := len_le (K := 67108864) ha
 have hl' := len_le (K := 67108864) (Nat.le_trans (bl_le_iff.2 (Nat.lt_of_le_of_lt hba (bl_lt a))) ha)
 have := sub_any (limbs a) (limbs b) A B _ _ c c' rfl rfl w h1 k1 h3 k3 (wf_limbs _) (wf_limbs _) (by omega) (by omega) (by rw [nv_limbs, nv_limbs]; exact hba)
 rw [nv_limbs, nv_limbs] at this
 exact this.mono (by rintro e w' ⟨v, rfl, h, hb⟩; exact ⟨v, rfl, PL.of_R h, hb⟩)
theorem mul_d {w : World} {u v : Value} {a b : Nat} (h : CN w u a) (h' : CN w v b) (ha : bl a ≤ 4294967296) (hb : bl b ≤ 4294967296) :
 Calls Tryz.prog 107 #[u, v] w fun e w' => ∃ v, e = .returned v ∧ PN w' w.heap.size v (a * b) ∧ BL w w' := by
 obtain ⟨A, n, c, rfl, h1, rfl, h3⟩ := h
 obtain ⟨B, n', c', rfl, k1, rfl, k3⟩ := h'
 have hl := len_le (K := 67108864) ha
 have hl' := len_le (K := 67108864) hb
 have := mul_any (limbs a) (limbs b) A B _ _ c c' rfl rfl w h1 k1 h3 k3 (wf_limbs _) (wf_limbs _) (by omega) (by omega)
 rw [nv_limbs, nv_limbs] at this
 exact this.mono (by rintro e w' ⟨v, rfl, h, hb⟩; exact ⟨v, rfl, PL.of_R h, hb⟩)
theorem cmp_d {w : World} {u v : Value} {a b : Nat} (h : CN w u a) (h' : CN w v b) (ha : bl a ≤ 4294967296) (hb : bl b ≤ 4294967296) :
 Calls Tryz.prog 55 #[u, v] w fun e w' => e = .returned (.int .i64 (cmpN a b)) ∧ BL w w' := by
 obtain ⟨A, n, c, rfl, h1, rfl, h3⟩ := h
 obtain ⟨B, n', c', rfl, k1, rfl, k3⟩ := h'
 have hl := len_le (K := 67108864) ha
 have hl' := len_le (K := 67108864) hb
 refine (cmp_any (limbs a) (limbs b) A B c c' w h1 k1 h3 k3 (wf_limbs _) (wf_limbs _) (by omega) (by omega)).mono ?_
 rintro e w' ⟨rfl, n, rfl⟩
 rw [nv_limbs, nv_limbs]
 exact ⟨rfl, pw_below_drewN yr _⟩
theorem shl_d {w : World} {v : Value} {m : Nat} (n : Int) (k : Nat) (hk : n = k) (h : CN w v m) (hm : bl m ≤ 4294967296) (hn : k ≤ 4294967296) :
 Calls Tryz.prog 53 #[v, .int .i64 n] w fun e w' => ∃ v, e = .returned v ∧ PN w' w.heap.size v (m * 2 ^ k) ∧ BL w w' := by
 subst hk
 obtain ⟨A, n, c, rfl, h1, rfl, h3⟩ := h
 have hl := len_le (K := 67108864) hm
 have := shl_any (limbs m) A _ c k rfl w h1 h3 (wf_limbs _) (by omega) (by omega)
 rw [nv_limbs] at this
 exact this.mono (by rintro e w' ⟨v, rfl, h, hb⟩; exact ⟨v, rfl, PL.of_R h, hb⟩)
theorem shr_d {w : World} {v : Value} {m : Nat} (n : Int) (k : Nat) (hk : n = k) (h : CN w v m) (hm : bl m ≤ 4294967296) (hn : k ≤ 4294967296) :
 Calls Tryz.prog 92 #[v, .int .i64 n] w fun e w' => ∃ v, e = .returned (.tuple #[v, .bool (m % 2 ^ k != 0)]) ∧ PN w' w.heap.size v (m / 2 ^ k) ∧ BL w w' := by
 subst hk
 obtain ⟨A, n, c, rfl, h1, rfl, h3⟩ := h
 have hl := len_le (K := 67108864) hm
 have := shr_any (limbs m) A _ c k rfl w h1 h3 (wf_limbs _) (by omega) (by omega)
 rw [nv_limbs] at this
 exact this.mono (by rintro e w' ⟨v, rfl, h, hb⟩; exact ⟨v, rfl, PL.of_R h, hb⟩)
theorem form_d {w : World} {v : Value} {m : Nat} (neg : Bool) (x : Int) (h : CN w v m) (hm : bl m ≤ 4294967296) (h1 : -1099511627776 ≤ x) (h2 : x ≤ 1099511627776) :
 Calls Tryz.prog 46 #[.bool neg, v, .int .i64 x] w fun e w' => ∃ v, e = .returned v ∧ PDy w' w.heap.size v (sgn neg m) x ∧ BL w w' := by
 obtain ⟨A, n, c, rfl, g1, rfl, g3⟩ := h
 have hl := len_le (K := 67108864) hm
 have := form_any neg (limbs m) A _ c x rfl w g1 g3 (wf_limbs _) (by omega) h1 h2
 rw [nv_limbs] at this
 exact this.mono (by rintro e w' ⟨v, rfl, h, hb⟩; exact ⟨v, rfl, h.p, hb⟩)
theorem one_d {v : Value} {a : Rat} {N : Nat} {w : World} (h : CQ w v a N) (hN : N ≤ 67108864) :
 Calls Tryz.prog 44 #[v] w fun en w' => ∃ v', en = .returned v' ∧ PQ w' w.heap.size v' a N ∧ BL w w' := by
 obtain ⟨z, e, h1, rfl, h3⟩ := h
 have l := (bd_len h3); have lo := (bd_lo h3); have hi := (bd_hi h3)
 have hs : Dv z e = Dv (sgn (cneg z) (cman z)) (cexp z e) := Dv_form z e
 obtain ⟨A, n, c, rfl, g1, rfl, g3⟩ := h1
 have := one_any (cneg z) (limbs (cman z)) A _ c (cexp z e) rfl w g1 g3 (wf_limbs _) (by omega) (by omega) (by omega)
 rw [nv_limbs] at this
 exact this.mono (by rintro e w' ⟨v, rfl, h, hb⟩; exact ⟨v, rfl, ⟨z, _, h.p.as_ hs.symm, rfl, h3⟩, hb⟩)
theorem done_dy {v : Value} {z e : Int} {N : Nat} {w : World} (h : CDy w v z e) (h3 : Bd N z e) (hN : N ≤ 67108864) :
 Calls Tryz.prog 44 #[v] w fun en w' => ∃ v', en = .returned v' ∧ PDy w' w.heap.size v' z e ∧ BL w w' := by
 have l := (bd_len h3); have lo := (bd_lo h3); have hi := (bd_hi h3)
 have hs : Dv z e = Dv (sgn (cneg z) (cman z)) (cexp z e) := Dv_form z e
 obtain ⟨A, n, c, rfl, g1, rfl, g3⟩ := h
 have := one_any (cneg z) (limbs (cman z)) A _ c (cexp z e) rfl w g1 g3 (wf_limbs _) (by omega) (by omega) (by omega)
 rw [nv_limbs] at this
 exact this.mono (by rintro e w' ⟨v, rfl, h, hb⟩; exact ⟨v, rfl, h.p.as_ hs.symm, hb⟩)
theorem dplus_q {u v : Value} {a b : Rat} {N M : Nat} {w : World} (h : CQ w u a N) (h' : CQ w v b M) (hN : N + M ≤ 67108864) :
 Calls Tryz.prog 27 #[u, v] w fun en w' => ∃ v', en = .returned v' ∧ PQ w' w.heap.size v' (a + b) (2 * (N + M) + 1) ∧ BL w w' := by
 obtain ⟨y, z, g, h1, k1, rfl, rfl, h3, k3⟩ := h.two h'
 have l := (bd_len h3); have lo := (bd_lo h3); have hi := (bd_hi h3)
 have l' := (bd_len k3); have lo' := (bd_lo k3); have hi' := (bd_hi k3)
 exact (plus_dy u v y z g w h1 k1 (by omega) (by omega) (by omega) (by omega) (by omega) (by omega)).mono fun en w' ⟨v', q1, q2, q3⟩ => ⟨v', q1, ⟨_, _, q2.p, Dv_add _ _ _, h3.add k3⟩, q3⟩
theorem dzero_q {v : Value} {a : Rat} {N : Nat} {w : World} (h : CQ w v a N) (hN : N ≤ 67108864) :
 Calls Tryz.prog 42 #[v] w fun en w' => en = .returned (.bool (decide (a = 0))) ∧ BL w w' := by
 obtain ⟨z, e, h1, rfl, h3⟩ := h
 have l := (bd_len h3)
 rw [decide_eq_decide.2 Dv_eq_zero]
 exact zero_any v z e w h1 (by omega)
theorem dsign_q {v : Value} {a : Rat} {N : Nat} {w : World} (h : CQ w v a N) (hN : N ≤ 67108864) :
 Calls Tryz.prog 25 #[v] w fun en w' => en = .returned (.int .i64 (sgnQ a)) ∧ BL w w' := by
 obtain ⟨z, e, h1, rfl, h3⟩ := h
 have l := (bd_len h3)
 rw [sgn_Dv]
 exact sign_any' v z e w h1 (by omega)
theorem dtop_q {v : Value} {q : Rat} {N : Nat} {w : World} (h : CQ w v q N) (hN : N ≤ 67108864) :
 Calls Tryz.prog 43 #[v] w fun en w' => ∃ T : Int, en = .returned (.int .i64 T) ∧ (q ≠ 0 → (2 : Rat) ^ T ≤ ab q ∧ ab q < (2 : Rat) ^ (T + 1)) ∧ -67108865 ≤ T ∧ T ≤ 268435456 ∧ BL w w' := by
 obtain ⟨z, e, h, rfl, hB⟩ := h
 have l := bd_len hB; have lo := bd_lo hB; have hi := bd_hi hB
 have hbl : bl (cman z) ≤ N := bl_le_iff.2 (bd_man hB)
 refine (top_any v z e w h (by omega) (by omega) (by omega)).mono ?_
 rintro en w' ⟨rfl, hb⟩
 refine ⟨_, rfl, fun h0 => ?_, by omega, by omega, hb⟩
 have hz : z ≠ 0 := fun q => h0 (Dv_eq_zero.2 q)
 have hp : 0 < (z.natAbs : Int) := by omega
 have c1 : cman (z.natAbs : Int) = cman z := by unfold cman; rw [Int.natAbs_natCast]
 have c2 : cexp (z.natAbs : Int) e = cexp z e := by unfold cexp; rw [if_neg hz, if_neg (by omega), Int.natAbs_natCast]
 have := top_pure (e := e) hp
 rw [c1, c2] at this
 rw [ab_Dv]
 exact this
theorem dint_q (n : Int) (w : World) (h1 : -9223372036854775808 ≤ n) (h2 : n < 9223372036854775808) :
 Calls Tryz.prog 21 #[.int .i64 n] w fun en w' => ∃ v', en = .returned v' ∧ PQ w' w.heap.size v' (n : Rat) 64 ∧ BL w w' := by
 refine (dint_any n w h1 h2).mono ?_
 rintro e w' ⟨v, rfl, h, hb⟩
 refine ⟨v, rfl, ⟨n, 0, h.p, by unfold Dv; rw [Rat.zpow_zero, Rat.mul_one], ?_, by decide, by decide⟩, hb⟩
 have : n.natAbs < 18446744073709551616 := by omega
 exact this
theorem Dv_addk (z e k : Int) : Dv z (e + k) = Dv z e * (2 : Rat) ^ k := by
 unfold Dv; rw [Rat.zpow_add two_ne, Rat.mul_assoc]
def Fub62_0 := [dg 0, dg 3, U, U, U, U, U, U, U, U, U, U, U, U, U, U, U, U, U, U, U, U, U, U, U, U, U]
def Fub62_1 := fs Fub62_0 [(2, ps 0 0), (3, ps 1 0), (4, ps 2 0)]
def Bub62_2 := [bb 25 (d3 0), bb 25 (d3 3), bb 25 o3]
def Rub62_3 : Rg := ⟨3, 6, 0, Fub62_0, Bub62_2, [pa 0 0, pa 1 0, pa 2 0], []⟩
def Fub62_4 := fs Fub62_1 [(5, ps 3 0), (6, ps 4 0), (7, dg 0), (8, dg 6), (9, dg 3), (10, dg 9)]
def Bub62_5 := [bb 25 (d3 0), bb 25 (d3 3), bb 25 o3, bb 25 o3, bb 25 o3]
def Rub62_6 : Rg := ⟨6, 6, 3, Fub62_1, Bub62_5, [pl (dg 0) 0 0 0, pc (dg 6) 0 44 [dg 0] 3, pl (dg 3) 0 1 0, pc (dg 9) 1 44 [dg 3] 3, pa 3 0, pa 4 0], [1, 3]⟩
def Bub62_7 := [bb 25 (d3 0), bb 25 (d3 3), bb 25 o3, bb 25 (d3 6), bb 25 (d3 9)]
def Fub62_8 := fs Fub62_4 [(11, ps 3 0), (12, vb 6), (13, ps 4 0), (14, vb 9), (15, bo .neq (vb 6) (vb 9)), (16, ps 3 1), (17, vs 7), (18, ps 4 1), (19, vs 10), (20, vs 12), (21, ps 3 2), (22, vi 8), (23, ps 4 2), (24, vi 11), (25, bo .add (vi 8) (vi 11)), (26, dg 13)]
def Rub62_9 : Rg := ⟨16, 12, 5, Fub62_4, Bub62_7, [pv (ps 3 0) 0, pl (vb 6) 0 3 0, pv (ps 4 0) 0, pl (vb 9) 0 4 0, pv (bo .neq (vb 6) (vb 9)) 0, pv (ps 3 1) 0, pl (vs 7) 0 3 1, pv (ps 4 1) 0, pl (vs 10) 0 4 1, pc (vs 12) 0 107 [vs 7, vs 10] 1, pv (ps 3 2) 0, pl (vi 8) 0 3 2, pv (ps 4 2) 0, pl (vi 11) 0 4 2, pv (bo .add (vi 8) (vi 11)) 0, pc (dg 13) 1 46 [bo .neq (vb 6) (vb 9), vs 12, bo .add (vi 8) (vi 11)] 3], [9, 15]⟩
def Bub62_10 := [bb 25 (d3 0), bb 25 (d3 3), bb 25 (d3 13), bb 25 (d3 6), bb 25 (d3 9)]
theorem dtimes_q {u v : Value} {a b : Rat} {N M : Nat} {w : World} (h : CQ w u a N) (h' : CQ w v b M) (hN : N ≤ 67108864) (hM : M ≤ 67108864) (hT : TB w) :
 Calls Tryz.prog 62 #[u, v] w fun en w' => ∃ v', en = .returned v' ∧ PQ w' w.heap.size v' (a * b) (N + M) ∧ BL w w' := by
 obtain ⟨z, e, h, rfl, hB⟩ := h
 obtain ⟨y, f, h', rfl, hB'⟩ := h'
 obtain ⟨b0, A0, n0, c0, x0, rfl⟩ := h.ex
 obtain ⟨b00, A00, n00, c00, x00, rfl⟩ := h'.ex
 have l := bd_len hB; have lo := bd_lo hB; have hi := bd_hi hB
 have hbl : bl (cman z) ≤ N := bl_le_iff.2 (bd_man hB)
 have l' := bd_len hB'; have lo' := bd_lo hB'; have hi' := bd_hi hB'
 have hbl' : bl (cman y) ≤ M := bl_le_iff.2 (bd_man hB')
 refine fn_enter (u := 64) (fn := Tryz.f62) Tryz.func62 rfl Fub62_0 [.bool b0, .slice A0 n0 c0, .int .i64 x0, .bool b00, .slice A00 n00 c00, .int .i64 x00] (by kernel_rfl) rfl (fun a0 S0 r0 => ?_)
 refine wp_seq (rk Rub62_3 [] Fub62_1 Bub62_2 S0 r0 ?_)
 intro _ _ _ r1 S1
 refine wp_seq (rk Rub62_6 [.st 3 0 (d3 6), .st 4 0 (d3 9)] Fub62_4 Bub62_7 S1 r1 ?_)
 intro _ _ r2 _
 refine (done_dy (h.below r2.first) hB hN).mono ?_
 rintro _ V1 ⟨v, rfl, h1, k1⟩
 obtain ⟨b1, A1, n1, c1, x1, rfl⟩ := h1.ex
 replace h1 := h1.lower r2.fs
 refine ⟨[.bool b1, .slice A1 n1 c1, .int .i64 x1], rfl, rfl, rfl, k1, ?_⟩
 obtain ⟨hb1, hx1, p1⟩ := h1.cells
 intro _ _ r3 _
 refine (done_dy (h'.below r3.first) hB' hM).mono ?_
 rintro _ V2 ⟨v, rfl, h2, k2⟩
 obtain ⟨b2, A2, n2, c2, x2, rfl⟩ := h2.ex
 replace h2 := h2.lower r3.fs
 refine ⟨[.bool b2, .slice A2 n2 c2, .int .i64 x2], rfl, rfl, rfl, k2, ?_⟩
 obtain ⟨hb2, hx2, p2⟩ := h2.cells
 have hX : IntKind.i64.wrap (x1 + x2) = cexp z e + cexp y f := by rw [hx1, hx2]; exact i64_id (by omega) (by omega)
 intro _ _ _ r4 S4
 refine wp_seq (rk Rub62_9 [.st 2 0 (d3 13)] Fub62_8 Bub62_10 S4 r4 ?_)
 intro _ _ r5 _
 refine (mul_d (p1.lat (r5.at_ 0 _ rfl)).c (p2.lat (r5.at_ 1 _ rfl)).c (by omega) (by omega)).mono ?_
 rintro _ V3 ⟨v, rfl, h3, k3⟩
 obtain ⟨A3, n3, c3, rfl⟩ := h3.ex
 replace h3 := h3.lower r5.fs
 refine ⟨[.slice A3 n3 c3], rfl, rfl, rfl, k3, ?_⟩
 intro W6 _ r6 _
 show Calls Tryz.prog 46 #[.bool (!(b1 == b2)), .slice A3 n3 c3, .int .i64 (IntKind.i64.wrap (x1 + x2))] W6 _
 refine (form_d _ _ (h3.lat (r6.at_ 2 _ rfl)).c (by have := bl_mul hbl hbl'; omega) (by rw [hX]; omega) (by rw [hX]; omega)).mono ?_
 rintro _ V4 ⟨v, rfl, h4, k4⟩
 obtain ⟨b4, A4, n4, c4, x4, rfl⟩ := h4.ex
 replace h4 := h4.lower r6.fs
 refine ⟨[.bool b4, .slice A4 n4 c4, .int .i64 x4], rfl, rfl, rfl, k4, ?_⟩
 intro _ _ _ r7 S7
 exact rt S7 [.agg #[.bool b4, .slice A4 n4 c4, .int .i64 x4]] (⟨_, rfl, ⟨z * y, e + f, (h4.lat (r7.at_ 3 _ rfl)).as_ (by rw [hX]; refine (congrArg (fun t => Dv t _) (sgn_mul b1 b2 _ _)).trans ?_; rw [← Dv_mul, hb1, hb2, ← Dv_form, ← Dv_form, Dv_mul]), Dv_mul _ _ _ _, hB.mul hB'⟩, r7.first⟩)
def Fub93_0 := [dg 0, U, U, U, U, U, U, U, U, U, U]
def Fub93_1 := fs Fub93_0 [(1, ps 0 0), (2, ps 1 0)]
def Bub93_2 := [bb 25 (d3 0), bb 25 o3]
def Rub93_3 : Rg := ⟨2, 3, 0, Fub93_0, Bub93_2, [pa 0 0, pa 1 0], []⟩
def Fub93_4 := fs Fub93_1 [(3, ps 0 0), (4, vb 0), (5, f1 noF (vb 0)), (6, ps 0 1), (7, vs 1), (8, ps 0 2), (9, vi 2), (10, dg 3)]
def Rub93_5 : Rg := ⟨8, 3, 2, Fub93_1, Bub93_2, [pv (ps 0 0) 0, pl (vb 0) 0 0 0, pv (f1 noF (vb 0)) 0, pv (ps 0 1) 0, pl (vs 1) 0 0 1, pv (ps 0 2) 0, pl (vi 2) 0 0 2, pc (dg 3) 0 46 [f1 noF (vb 0), vs 1, vi 2] 3], [7]⟩
def Bub93_6 := [bb 25 (d3 0), bb 25 (d3 3)]
theorem dneg_q {v : Value} {a : Rat} {N : Nat} {w : World} (h : CQ w v a N) (hN : N ≤ 67108864) (hT : TB w) :
 Calls Tryz.prog 93 #[v] w fun en w' => ∃ v', en = .returned v' ∧ PQ w' w.heap.size v' (-a) N ∧ BL w w' := by
 obtain ⟨z, e, h, rfl, hB⟩ := h
 obtain ⟨b0, A0, n0, c0, x0, rfl⟩ := h.ex
 obtain ⟨hb0, hx0, p0⟩ := h.cells
 have l := bd_len hB; have lo := bd_lo hB; have hi := bd_hi hB
 have hbl : bl (cman z) ≤ N := bl_le_iff.2 (bd_man hB)
 refine fn_enter (u := 64) (fn := Tryz.f93) Tryz.func93 rfl Fub93_0 [.bool b0, .slice A0 n0 c0, .int .i64 x0] (by kernel_rfl) rfl (fun a0 S0 r0 => ?_)
 refine wp_seq (rk Rub93_3 [] Fub93_1 Bub93_2 S0 r0 ?_)
 intro _ _ _ r1 S1
 refine wp_seq (rk Rub93_5 [.st 1 0 (d3 3)] Fub93_4 Bub93_6 S1 r1 ?_)
 intro W2 _ r2 _
 show Calls Tryz.prog 46 #[.bool (!b0), .slice A0 n0 c0, .int .i64 x0] W2 _
 refine (form_d _ _ (p0.below r2.first) (by omega) (by omega) (by omega)).mono ?_
 rintro _ V1 ⟨v, rfl, h1, k1⟩
 obtain ⟨b1, A1, n1, c1, x1, rfl⟩ := h1.ex
 replace h1 := h1.lower r2.fs
 refine ⟨[.bool b1, .slice A1 n1 c1, .int .i64 x1], rfl, rfl, rfl, k1, ?_⟩
 intro _ _ _ r3 S3
 exact rt S3 [.agg #[.bool b1, .slice A1 n1 c1, .int .i64 x1]] (⟨_, rfl, ⟨-z, e, (h1.lat (r3.at_ 0 _ rfl)).as_ (by rw [Dv_neg, Dv_form z e, hb0, hx0]; cases cneg z <;> (unfold sgn; simp [← Dv_neg])), (Dv_neg z e).symm, hB.neg⟩, r3.first⟩)
def Fub114_0 := [dg 0, vi 3, U, U, U, U, U, U, U, U, U, U, U, U]
def Fub114_1 := fs Fub114_0 [(2, ps 0 0), (4, ps 1 0)]
def Bub114_2 := [bb 25 (d3 0), bb 25 o3]
def Rub114_3 : Rg := ⟨2, 4, 0, Fub114_0, Bub114_2, [pa 0 0, pa 1 0], []⟩
def Fub114_4 := fs Fub114_1 [(5, ps 0 0), (6, vb 0), (7, ps 0 1), (8, vs 1), (9, ps 0 2), (10, vi 2), (11, vi 3), (12, bo .add (vi 2) (vi 3)), (13, dg 4)]
def Rub114_5 : Rg := ⟨9, 4, 2, Fub114_1, Bub114_2, [pv (ps 0 0) 0, pl (vb 0) 0 0 0, pv (ps 0 1) 0, pl (vs 1) 0 0 1, pv (ps 0 2) 0, pl (vi 2) 0 0 2, pv (vi 3) 0, pv (bo .add (vi 2) (vi 3)) 0, pc (dg 4) 0 46 [vb 0, vs 1, bo .add (vi 2) (vi 3)] 3], [8]⟩
def Bub114_6 := [bb 25 (d3 0), bb 25 (d3 4)]
theorem dtwice_q {v : Value} {a : Rat} {N K : Nat} {w : World} (k : Int) (h : CQ w v a N) (hN : N ≤ 67108864) (hk : k.natAbs ≤ K) (hK : K ≤ 67108864) (hT : TB w) :
 Calls Tryz.prog 114 #[v, .int .i64 k] w fun en w' => ∃ v', en = .returned v' ∧ PQ w' w.heap.size v' (a * (2 : Rat) ^ k) (N + K) ∧ BL w w' := by
 obtain ⟨z, e, h, rfl, hB⟩ := h
 obtain ⟨b0, A0, n0, c0, x0, rfl⟩ := h.ex
 obtain ⟨hb0, hx0, p0⟩ := h.cells
 have l := bd_len hB; have lo := bd_lo hB; have hi := bd_hi hB
 have hbl : bl (cman z) ≤ N := bl_le_iff.2 (bd_man hB)
 have hX : IntKind.i64.wrap (x0 + k) = cexp z e + k := by rw [hx0]; exact i64_id (by omega) (by omega)
 refine fn_enter (u := 64) (fn := Tryz.f114) Tryz.func114 rfl Fub114_0 [.bool b0, .slice A0 n0 c0, .int .i64 x0, .int .i64 k] (by kernel_rfl) rfl (fun a0 S0 r0 => ?_)
 refine wp_seq (rk Rub114_3 [] Fub114_1 Bub114_2 S0 r0 ?_)
 intro _ _ _ r1 S1
 refine wp_seq (rk Rub114_5 [.st 1 0 (d3 4)] Fub114_4 Bub114_6 S1 r1 ?_)
 intro W2 _ r2 _
 show Calls Tryz.prog 46 #[.bool b0, .slice A0 n0 c0, .int .i64 (IntKind.i64.wrap (x0 + k))] W2 _
 refine (form_d _ _ (p0.below r2.first) (by omega) (by rw [hX]; omega) (by rw [hX]; omega)).mono ?_
 rintro _ V1 ⟨v, rfl, h1, k1⟩
 obtain ⟨b1, A1, n1, c1, x1, rfl⟩ := h1.ex
 replace h1 := h1.lower r2.fs
 refine ⟨[.bool b1, .slice A1 n1 c1, .int .i64 x1], rfl, rfl, rfl, k1, ?_⟩
 intro _ _ _ r3 S3
 exact rt S3 [.agg #[.bool b1, .slice A1 n1 c1, .int .i64 x1]] (⟨_, rfl, ⟨z, e + k, (h1.lat (r3.at_ 0 _ rfl)).as_ (by rw [hX, hb0, Dv_addk, Dv_addk, ← Dv_form]), (Dv_addk _ _ _).symm, ⟨Nat.lt_of_lt_of_le hB.1 (Nat.pow_le_pow_right (by decide) (by omega)), by have := hB.2; omega, by have := hB.2; omega⟩⟩, r3.first⟩)
def Fub52_0 := [dg 0, dg 3, U, U, U, U, U, U, U]
def Fub52_1 := fs Fub52_0 [(2, ps 0 0), (3, ps 1 0), (4, ps 2 0)]
def Bub52_2 := [bb 25 (d3 0), bb 25 (d3 3), bb 25 o3]
def Rub52_3 : Rg := ⟨3, 6, 0, Fub52_0, Bub52_2, [pa 0 0, pa 1 0, pa 2 0], []⟩
def Fub52_4 := fs Fub52_1 [(5, dg 0), (6, dg 3), (7, dg 6), (8, dg 9)]
def Rub52_5 : Rg := ⟨4, 6, 3, Fub52_1, Bub52_2, [pl (dg 0) 0 0 0, pl (dg 3) 0 1 0, pc (dg 6) 0 93 [dg 3] 3, pc (dg 9) 1 27 [dg 0, dg 6] 3], [2, 3]⟩
def Bub52_6 := [bb 25 (d3 0), bb 25 (d3 3), bb 25 (d3 9)]
theorem dless_q {u v : Value} {a b : Rat} {N M : Nat} {w : World} (h : CQ w u a N) (h' : CQ w v b M) (hN : N + M ≤ 67108864) (hT : TB w) :
 Calls Tryz.prog 52 #[u, v] w fun en w' => ∃ v', en = .returned v' ∧ PQ w' w.heap.size v' (a - b) (2 * (N + M) + 1) ∧ BL w w' := by
 obtain ⟨b0, A0, n0, c0, x0, rfl⟩ := h.ex
 obtain ⟨b00, A00, n00, c00, x00, rfl⟩ := h'.ex
 refine fn_enter (u := 64) (fn := Tryz.f52) Tryz.func52 rfl Fub52_0 [.bool b0, .slice A0 n0 c0, .int .i64 x0, .bool b00, .slice A00 n00 c00, .int .i64 x00] (by kernel_rfl) rfl (fun a0 S0 r0 => ?_)
 refine wp_seq (rk Rub52_3 [] Fub52_1 Bub52_2 S0 r0 ?_)
 intro _ _ _ r1 S1
 refine wp_seq (rk Rub52_5 [.st 2 0 (d3 9)] Fub52_4 Bub52_6 S1 r1 ?_)
 intro _ _ r2 _
 refine (dneg_q (h'.below r2.first) (by omega) (tb hT r2)).mono ?_
 rintro _ V1 ⟨v, rfl, h1, k1⟩
 obtain ⟨b1, A1, n1, c1, x1, rfl⟩ := h1.ex
 replace h1 := h1.lower r2.fs
 refine ⟨[.bool b1, .slice A1 n1 c1, .int .i64 x1], rfl, rfl, rfl, k1, ?_⟩
 intro _ _ r3 _
 refine (dplus_q (h.below r3.first) (h1.lat (r3.at_ 0 _ rfl)).c hN).mono ?_
 rintro _ V2 ⟨v, rfl, h2, k2⟩
 obtain ⟨b2, A2, n2, c2, x2, rfl⟩ := h2.ex
 replace h2 := h2.lower r3.fs
 refine ⟨[.bool b2, .slice A2 n2 c2, .int .i64 x2], rfl, rfl, rfl, k2, ?_⟩
 intro _ _ _ r4 S4
 exact rt S4 [.agg #[.bool b2, .slice A2 n2 c2, .int .i64 x2]] (⟨_, rfl, Rat.sub_eq_add_neg a b ▸ (h2.lat (r4.at_ 1 _ rfl)), r4.first⟩)
theorem sgn_sub (a b : Rat) : sgnQ (a - b) = cmpQ a b := by
 unfold sgnQ cmpQ
 by_cases h1 : a < b
 · rw [if_pos h1, if_neg (by grind), if_pos (by grind)]
 · by_cases h2 : b < a
   · rw [if_neg h1, if_pos h2, if_neg (by grind), if_neg (by grind)]
   · rw [if_neg h1, if_neg h2, if_pos (by grind)]
theorem sgnQ_cases (a : Rat) : (a < 0 ∧ sgnQ a = -1) ∨ (a = 0 ∧ sgnQ a = 0) ∨ (0 < a ∧ sgnQ a = 1) := by
 unfold sgnQ
 by_cases h1 : a = 0
 · exact .inr (.inl ⟨h1, if_pos h1⟩)
 · by_cases h2 : a < 0
   · exact .inl ⟨h2, by rw [if_neg h1, if_pos h2]⟩
   · exact .inr (.inr ⟨by grind, by rw [if_neg h1, if_neg h2]⟩)
theorem ord_l {a b : Rat} (h : sgnQ a < sgnQ b) : cmpQ a b = -1 := by
 have := sgnQ_cases a; have := sgnQ_cases b
 exact if_pos (by grind)
theorem ord_g {a b : Rat} (h : sgnQ b < sgnQ a) : cmpQ a b = 1 := by
 have := sgnQ_cases a; have := sgnQ_cases b
 unfold cmpQ
 rw [if_neg (by grind), if_pos (by grind)]
theorem ord_0 {a b : Rat} (h : ¬ sgnQ a < sgnQ b) (h' : ¬ sgnQ b < sgnQ a) (h0 : sgnQ a = 0) : cmpQ a b = 0 := by
 have := sgnQ_cases a; have := sgnQ_cases b
 unfold cmpQ
 rw [if_neg (by grind), if_neg (by grind)]
theorem ord_tt {a b : Rat} {x y : Int} (h1 : sgnQ a = sgnQ b) (h0 : sgnQ a ≠ 0) (ha : a ≠ 0 → (2 : Rat) ^ x ≤ ab a ∧ ab a < (2 : Rat) ^ (x + 1)) (hb : b ≠ 0 → (2 : Rat) ^ y ≤ ab b ∧ ab b < (2 : Rat) ^ (y + 1)) (h : y < x) : cmpQ a b = sgnQ a ∧ cmpQ b a = -sgnQ b := by
 have e1 := sgnQ_cases a; have e2 := sgnQ_cases b
 have ha := ha (by grind); have hb := hb (by grind)
 have hm := pw_mono (a := y + 1) (b := x) (by omega)
 have hlt : ab b < ab a := by grind
 unfold ab at hlt
 unfold cmpQ
 rcases e1 with ⟨p, q⟩ | ⟨p, q⟩ | ⟨p, q⟩
 · have hb0 : b < 0 := by grind
   rw [if_neg (by grind), if_neg (by grind)] at hlt
   rw [if_pos (by grind), if_neg (by grind), if_pos (by grind), q, show sgnQ b = -1 by grind]
   exact ⟨rfl, rfl⟩
 · exact absurd q h0
 · have hb0 : 0 < b := by grind
   rw [if_pos (by grind), if_pos (by grind)] at hlt
   rw [if_neg (by grind), if_pos (by grind), if_pos (by grind), q, show sgnQ b = 1 by grind]
   exact ⟨rfl, rfl⟩
theorem sgn_wrap (a : Rat) : IntKind.i64.wrap (0 - sgnQ a) = -sgnQ a := by
 have := sgnQ_cases a
 rw [i64_id (by omega) (by omega)]; omega
def Fub26_0 := [dg 0, dg 3, U, U, U, U, U, U, U, U, U, U, U, U, U, U, U, U, U, U, U, U, U, U, U, U, U, U, U, U, U, U, U, U, U, U, U, U, U, U, U]
def Fub26_1 := fs Fub26_0 [(2, ps 0 0), (3, ps 1 0), (4, li 0)]
def Bub26_2 := [bb 25 (d3 0), bb 25 (d3 3)]
def Rub26_3 : Rg := ⟨3, 6, 0, Fub26_0, Bub26_2, [pa 0 0, pa 1 0, pv (li 0) 0], []⟩
def Fub26_4 := fs Fub26_1 [(5, vi 6), (6, vi 7), (9, dg 0), (10, vi 6), (11, dg 3), (12, vi 7)]
def Rub26_5 : Rg := ⟨6, 6, 2, Fub26_1, Bub26_2, [pl (dg 0) 0 0 0, pc (vi 6) 0 25 [dg 0] 1, pl (dg 3) 0 1 0, pc (vi 7) 1 25 [dg 3] 1, pv (vi 6) 2, pv (vi 7) 2], [1, 3]⟩
def Fub26_6 := fs Fub26_4 [(13, bo .lss (vi 6) (vi 7)), (14, vi 6), (15, vi 7), (16, bo .lss (vi 6) (vi 7))]
def Rub26_7 : Rg := ⟨4, 8, 2, Fub26_4, Bub26_2, [pv (vi 6) 0, pv (vi 7) 0, pv (bo .lss (vi 6) (vi 7)) 0, pv (bo .lss (vi 6) (vi 7)) 0], []⟩
def Fub26_8 := fs Fub26_6 [(4, li (-1))]
def Rub26_9 : Rg := ⟨1, 8, 2, Fub26_6, Bub26_2, [pv (li (-1)) 0], []⟩
def Fub26_10 := fs Fub26_6 [(17, bo .gtr (vi 6) (vi 7)), (18, vi 6), (19, vi 7), (20, bo .gtr (vi 6) (vi 7))]
def Rub26_11 : Rg := ⟨4, 8, 2, Fub26_6, Bub26_2, [pv (vi 6) 0, pv (vi 7) 0, pv (bo .gtr (vi 6) (vi 7)) 0, pv (bo .gtr (vi 6) (vi 7)) 0], []⟩
def Fub26_12 := fs Fub26_10 [(4, li 1)]
def Rub26_13 : Rg := ⟨1, 8, 2, Fub26_10, Bub26_2, [pv (li 1) 0], []⟩
def Fub26_14 := fs Fub26_10 [(21, bo .eql (vi 6) (li 0)), (22, vi 6), (23, bo .eql (vi 6) (li 0))]
def Rub26_15 : Rg := ⟨3, 8, 2, Fub26_10, Bub26_2, [pv (vi 6) 0, pv (bo .eql (vi 6) (li 0)) 0, pv (bo .eql (vi 6) (li 0)) 0], []⟩
def Rub26_16 : Rg := ⟨1, 8, 2, Fub26_14, Bub26_2, [pv (li 0) 0], []⟩
def Fub26_17 := fs Fub26_14 [(7, vi 8), (8, vi 9), (24, dg 0), (25, vi 8), (26, dg 3), (27, vi 9)]
def Rub26_18 : Rg := ⟨6, 8, 2, Fub26_14, Bub26_2, [pl (dg 0) 0 0 0, pc (vi 8) 0 43 [dg 0] 1, pl (dg 3) 0 1 0, pc (vi 9) 1 43 [dg 3] 1, pv (vi 8) 2, pv (vi 9) 2], [1, 3]⟩
def Fub26_19 := fs Fub26_17 [(28, vi 8), (29, vi 9), (30, bo .neq (vi 8) (vi 9))]
def Rub26_20 : Rg := ⟨3, 10, 2, Fub26_17, Bub26_2, [pv (vi 8) 0, pv (vi 9) 0, pv (bo .neq (vi 8) (vi 9)) 0], []⟩
def Fub26_21 := fs Fub26_19 [(31, vi 8), (32, vi 9), (33, bo .gtr (vi 8) (vi 9))]
def Rub26_22 : Rg := ⟨3, 10, 2, Fub26_19, Bub26_2, [pv (vi 8) 0, pv (vi 9) 0, pv (bo .gtr (vi 8) (vi 9)) 0], []⟩
def Fub26_23 := fs Fub26_21 [(4, vi 6), (34, vi 6)]
def Rub26_24 : Rg := ⟨2, 10, 2, Fub26_21, Bub26_2, [pv (vi 6) 0, pv (vi 6) 0], []⟩
def Fub26_25 := fs Fub26_21 [(4, f1 ngF (vi 6)), (35, vi 6), (36, f1 ngF (vi 6))]
def Rub26_26 : Rg := ⟨3, 10, 2, Fub26_21, Bub26_2, [pv (vi 6) 0, pv (f1 ngF (vi 6)) 0, pv (f1 ngF (vi 6)) 0], []⟩
def Fub26_27 := fs Fub26_19 [(4, vi 13), (37, dg 0), (38, dg 3), (39, dg 10), (40, vi 13)]
def Rub26_28 : Rg := ⟨5, 10, 2, Fub26_19, Bub26_2, [pl (dg 0) 0 0 0, pl (dg 3) 0 1 0, pc (dg 10) 0 52 [dg 0, dg 3] 3, pc (vi 13) 1 25 [dg 10] 1, pv (vi 13) 2], [2, 3]⟩
theorem dorder_q {u v : Value} {a b : Rat} {N M : Nat} {w : World} (h : CQ w u a N) (h' : CQ w v b M) (hN : N + M ≤ 33554431) (hT : TB w) :
 Calls Tryz.prog 26 #[u, v] w fun en w' => en = .returned (.int .i64 (cmpQ a b)) ∧ BL w w' := by
 obtain ⟨b0, A0, n0, c0, x0, rfl⟩ := h.ex
 obtain ⟨b00, A00, n00, c00, x00, rfl⟩ := h'.ex
 refine fn_enter (u := 64) (fn := Tryz.f26) Tryz.func26 rfl Fub26_0 [.bool b0, .slice A0 n0 c0, .int .i64 x0, .bool b00, .slice A00 n00 c00, .int .i64 x00] (by kernel_rfl) rfl (fun a0 S0 r0 => ?_)
 refine wp_seq (rk Rub26_3 [] Fub26_1 Bub26_2 S0 r0 ?_)
 intro _ _ _ r1 S1
 refine wp_seq (rk Rub26_5 [] Fub26_4 Bub26_2 S1 r1 ?_)
 intro _ _ r2 _
 refine (dsign_q (h.below r2.first) (by omega)).mono ?_
 rintro _ V1 ⟨rfl, k1⟩
 refine ⟨[.int .i64 (sgnQ a)], rfl, rfl, rfl, k1, ?_⟩
 intro _ _ r3 _
 refine (dsign_q (h'.below r3.first) (by omega)).mono ?_
 rintro _ V2 ⟨rfl, k2⟩
 refine ⟨[.int .i64 (sgnQ b)], rfl, rfl, rfl, k2, ?_⟩
 intro _ _ _ r4 S4
 refine wp_seq ?_
 refine wp_block ?_
 refine wp_seq (rk Rub26_7 [] Fub26_6 Bub26_2 S4 r4 ?_)
 intro _ _ _ r5 S5
 refine wp_cond_split (t := decide ((sgnQ a) < (sgnQ b))) (S5.cnd (by kernel_rfl)) (fun q1 => ?_) (fun q1 => ?_)
 · refine wp_seq (rk Rub26_9 [] Fub26_8 Bub26_2 S5 r5 ?_)
   intro a6 g6 W6 r6 S6
   exact wp_ret (blk_ret (then_ret (ret_ok S6 [.int .i64 (-1)] (by kernel_rfl) (⟨by rw [ord_l (of_decide_eq_true q1)]; rfl, r6.first⟩))))
 · refine wp_seq (rk Rub26_11 [] Fub26_10 Bub26_2 S5 r5 ?_)
   intro a6 g6 W6 r6 S6
   refine wp_cond_split (t := decide ((sgnQ a) > (sgnQ b))) (S6.cnd (by kernel_rfl)) (fun q2 => ?_) (fun q2 => ?_)
   · refine wp_seq (rk Rub26_13 [] Fub26_12 Bub26_2 S6 r6 ?_)
     intro a7 g7 W7 r7 S7
     exact wp_ret (blk_ret (then_ret (ret_ok S7 [.int .i64 1] (by kernel_rfl) (⟨by rw [ord_g (of_decide_eq_true q2)]; rfl, r7.first⟩))))
   · refine wp_seq (rk Rub26_15 [] Fub26_14 Bub26_2 S6 r6 ?_)
     intro a7 g7 W7 r7 S7
     refine wp_cond_split (t := (sgnQ a) == 0) (S7.cnd (by kernel_rfl)) (fun q3 => ?_) (fun q3 => ?_)
     · have h0 : sgnQ a = 0 := by simpa using q3
       refine wp_seq (rk Rub26_16 [] Fub26_14 Bub26_2 S7 r7 ?_)
       intro _ g8 W8 r8 S8
       exact wp_ret (blk_ret (then_ret (ret_ok S8 [.int .i64 0] (by kernel_rfl) (⟨by rw [ord_0 (of_decide_eq_false q1) (of_decide_eq_false q2) h0]; rfl, r8.first⟩))))
     · have h0 : sgnQ a ≠ 0 := by simpa using q3
       have hs : sgnQ a = sgnQ b := by have := of_decide_eq_false q1; have := of_decide_eq_false q2; omega
       refine wp_skip ?_
       refine wp_seq (rk Rub26_18 [] Fub26_17 Bub26_2 S7 r7 ?_)
       intro W8 g8 r8 _
       refine (dtop_q (h.below r8.first) (by omega)).mono ?_
       rintro _ V3 ⟨X, rfl, gX, _, _, k3⟩
       refine ⟨[.int .i64 X], rfl, rfl, rfl, k3, ?_⟩
       intro _ _ r9 _
       refine (dtop_q (h'.below r9.first) (by omega)).mono ?_
       rintro _ V4 ⟨Y, rfl, gY, _, _, k4⟩
       refine ⟨[.int .i64 Y], rfl, rfl, rfl, k4, ?_⟩
       intro _ _ _ r10 S10
       refine wp_seq ?_
       refine wp_seq (rk Rub26_20 [] Fub26_19 Bub26_2 S10 r10 ?_)
       intro _ _ _ r11 S11
       refine wp_cond_split (t := X != Y) (S11.cnd (by kernel_rfl)) (fun q4 => ?_) (fun q4 => ?_)
       · refine wp_seq ?_
         refine wp_seq (rk Rub26_22 [] Fub26_21 Bub26_2 S11 r11 ?_)
         intro _ g12 W12 r12 S12
         refine wp_cond_split (t := decide (X > Y)) (S12.cnd (by kernel_rfl)) (fun q5 => ?_) (fun q5 => ?_)
         · refine wp_seq (rk Rub26_24 [] Fub26_23 Bub26_2 S12 r12 ?_)
           intro a13 g13 W13 r13 S13
           exact wp_ret (then_ret (then_ret (ret_ok S13 [.int .i64 (sgnQ a)] (by kernel_rfl) (⟨by rw [(ord_tt hs h0 gX gY (of_decide_eq_true q5)).1]; rfl, r13.first⟩))))
         · have hXY : X < Y := by have := of_decide_eq_false q5; have h9 : X ≠ Y := (by simpa using q4); omega
           refine wp_skip ?_
           refine wp_seq (rk Rub26_26 [] Fub26_25 Bub26_2 S12 r12 ?_)
           intro a13 g13 W13 r13 S13
           exact wp_ret (then_ret (ret_ok S13 [.int .i64 (IntKind.i64.wrap (0 - (sgnQ a)))] (by kernel_rfl) (⟨by rw [sgn_wrap, (ord_tt hs.symm (by rw [← hs]; exact h0) gY gX hXY).2]; rfl, r13.first⟩)))
       · refine wp_skip ?_
         refine wp_seq (rk Rub26_28 [] Fub26_27 Bub26_2 S11 r11 ?_)
         intro W12 g12 r12 _
         refine (dless_q (h.below r12.first) (h'.below r12.first) (by omega) (tb hT r12)).mono ?_
         rintro _ V5 ⟨v, rfl, h5, k5⟩
         obtain ⟨b5, A5, n5, c5, x5, rfl⟩ := h5.ex
         replace h5 := h5.lower r12.fs
         refine ⟨[.bool b5, .slice A5 n5 c5, .int .i64 x5], rfl, rfl, rfl, k5, ?_⟩
         intro W13 g13 r13 _
         refine (dsign_q (h5.lat (r13.at_ 4 _ rfl)).c (by omega)).mono ?_
         rintro _ V6 ⟨rfl, k6⟩
         refine ⟨[.int .i64 (sgnQ (a - b))], rfl, rfl, rfl, k6, ?_⟩
         intro _ _ _ r14 S14
         exact rt S14 [.int .i64 (sgnQ (a - b))] (⟨by rw [sgn_sub]; rfl, r14.first⟩)
theorem cman_lost {z : Int} (h : z ≠ 0) {k : Nat} (hk : 0 < k) : (cman z % 2 ^ k != 0) = true := by
 have h1 : cman z % 2 = 1 := (tz_spec _ (show z.natAbs ≠ 0 by omega)).2
 obtain ⟨j, rfl⟩ : ∃ j, k = j + 1 := ⟨k - 1, by omega⟩
 have : cman z % 2 ^ (j + 1) ≠ 0 := by
  intro h2
  have h3 := Nat.mod_mod_of_dvd (cman z) (show 2 ∣ 2 ^ (j + 1) from ⟨2 ^ j, by rw [Nat.pow_succ]; omega⟩)
  rw [h2] at h3; omega
 simpa using this
def Fub108_0 := [dg 0, vi 3, vb 4, U, U, U, U, U, U, U, U, U, U, U, U, U, U, U, U, U, U, U, U, U, U, U, U, U, U, U, U, U, U, U, U, U, U, U, U, U, U, U, U, U, U, U, U, U, U]
def Fub108_1 := fs Fub108_0 [(3, ps 0 0), (6, ps 1 0)]
def Bub108_2 := [bb 25 (d3 0), bb 25 o3]
def Rub108_3 : Rg := ⟨2, 5, 0, Fub108_0, Bub108_2, [pa 0 0, pa 1 0], []⟩
def Fub108_4 := fs Fub108_1 [(7, ps 2 0), (11, dg 0), (12, dg 5)]
def Bub108_5 := [bb 25 (d3 0), bb 25 o3, bb 25 o3]
def Rub108_6 : Rg := ⟨3, 5, 2, Fub108_1, Bub108_5, [pl (dg 0) 0 0 0, pc (dg 5) 0 44 [dg 0] 3, pa 2 0], [1]⟩
def Bub108_7 := [bb 25 (d3 0), bb 25 o3, bb 25 (d3 5)]
def Fub108_8 := fs Fub108_4 [(8, vi 8), (13, ps 2 1), (14, vs 6), (15, vi 8)]
def Rub108_9 : Rg := ⟨4, 8, 3, Fub108_4, Bub108_7, [pv (ps 2 1) 0, pl (vs 6) 0 2 1, pc (vi 8) 0 90 [vs 6] 1, pv (vi 8) 1], [2]⟩
def Fub108_10 := fs Fub108_8 [(16, vi 8), (17, vi 3), (18, bo .leq (vi 8) (vi 3))]
def Rub108_11 : Rg := ⟨3, 9, 3, Fub108_8, Bub108_7, [pv (vi 8) 0, pv (vi 3) 0, pv (bo .leq (vi 8) (vi 3)) 0], []⟩
def Fub108_12 := fs Fub108_10 [(19, dg 5)]
def Rub108_13 : Rg := ⟨1, 9, 3, Fub108_10, Bub108_7, [pl (dg 5) 0 2 0], []⟩
def Bub108_14 := [bb 25 (d3 0), bb 25 (d3 5), bb 25 (d3 5)]
def Fub108_15 := fs Fub108_10 [(9, vs 9), (10, vb 10), (20, tu [vs 9, vb 10]), (21, ps 2 1), (22, vs 6), (23, vi 8), (24, vi 3), (25, bo .sub (vi 8) (vi 3)), (26, tu [vs 9, vb 10]), (27, vs 9), (28, vb 10)]
def Rub108_16 : Rg := ⟨11, 9, 3, Fub108_10, Bub108_7, [pv (ps 2 1) 0, pl (vs 6) 0 2 1, pv (vi 8) 0, pv (vi 3) 0, pv (bo .sub (vi 8) (vi 3)) 0, pc (tu [vs 9, vb 10]) 0 92 [vs 6, bo .sub (vi 8) (vi 3)] 2, pv (tu [vs 9, vb 10]) 1, pv (vs 9) 1, pv (vb 10) 1, pv (vs 9) 1, pv (vb 10) 1], [5]⟩
def Fub108_17 := fs Fub108_15 [(29, vb 10), (30, vb 10), (31, gd true (vb 10) (vb 4)), (32, gd true (vb 10) (ps 2 0)), (33, gd true (vb 10) (vb 5)), (34, gd true (vb 10) (bo .neq (vb 4) (vb 5))), (35, pk (vb 10) (bo .neq (vb 4) (vb 5)) (lb false))]
def Rub108_18 : Rg := ⟨7, 11, 3, Fub108_15, Bub108_7, [pv (vb 10) 0, pv (vb 10) 0, ⟨vb 4, 0, [], .val, gd true (vb 10) (vb 4)⟩, ⟨ps 2 0, 0, [], .val, gd true (vb 10) (ps 2 0)⟩, ⟨vb 5, 0, [], .ld 2 0, gd true (vb 10) (vb 5)⟩, ⟨bo .neq (vb 4) (vb 5), 0, [], .val, gd true (vb 10) (bo .neq (vb 4) (vb 5))⟩, ⟨pk (vb 10) (bo .neq (vb 4) (vb 5)) (lb false), 0, [], .pk, pk (vb 10) (bo .neq (vb 4) (vb 5)) (lb false)⟩], []⟩
def Fub108_19 := fs Fub108_17 [(9, vs 12), (36, vs 9), (37, vs 11), (38, vs 12)]
def Rub108_20 : Rg := ⟨3, 11, 3, Fub108_17, Bub108_7, [pv (vs 9) 0, pc (vs 11) 0 47 [lu 1] 1, pc (vs 12) 1 54 [vs 9, vs 11] 1], [1, 2]⟩
def Fub108_21 := fs Fub108_19 [(39, ps 2 0), (40, vb 5), (41, vs 12), (42, ps 2 2), (43, vi 7), (44, vi 8), (45, bo .add (vi 7) (vi 8)), (46, vi 3), (47, bo .sub (bo .add (vi 7) (vi 8)) (vi 3)), (48, dg 13)]
def Rub108_22 : Rg := ⟨10, 13, 3, Fub108_19, Bub108_7, [pv (ps 2 0) 0, pl (vb 5) 0 2 0, pv (vs 12) 0, pv (ps 2 2) 0, pl (vi 7) 0 2 2, pv (vi 8) 0, pv (bo .add (vi 7) (vi 8)) 0, pv (vi 3) 0, pv (bo .sub (bo .add (vi 7) (vi 8)) (vi 3)) 0, pc (dg 13) 0 46 [vb 5, vs 12, bo .sub (bo .add (vi 7) (vi 8)) (vi 3)] 3], [9]⟩
def Bub108_23 := [bb 25 (d3 0), bb 25 (d3 13), bb 25 (d3 5)]
def Fub108_24 := fs Fub108_17 [(39, ps 2 0), (40, vb 5), (41, vs 9), (42, ps 2 2), (43, vi 7), (44, vi 8), (45, bo .add (vi 7) (vi 8)), (46, vi 3), (47, bo .sub (bo .add (vi 7) (vi 8)) (vi 3)), (48, dg 11)]
def Rub108_25 : Rg := ⟨10, 11, 3, Fub108_17, Bub108_7, [pv (ps 2 0) 0, pl (vb 5) 0 2 0, pv (vs 9) 0, pv (ps 2 2) 0, pl (vi 7) 0 2 2, pv (vi 8) 0, pv (bo .add (vi 7) (vi 8)) 0, pv (vi 3) 0, pv (bo .sub (bo .add (vi 7) (vi 8)) (vi 3)) 0, pc (dg 11) 0 46 [vb 5, vs 9, bo .sub (bo .add (vi 7) (vi 8)) (vi 3)] 3], [9]⟩
def Bub108_26 := [bb 25 (d3 0), bb 25 (d3 11), bb 25 (d3 5)]
theorem dtrim_x {v : Value} {q : Rat} {N p : Nat} {up : Bool} {w : World} (h : CQ w v q N) (hN : N ≤ 67108864) (hp : 1 ≤ p) (hp2 : p ≤ 67108864) (hT : TB w) :
 Calls Tryz.prog 108 #[v, .int .i64 (p : Int), .bool up] w fun en w' => ∃ v' c, en = .returned v' ∧ PQ w' w.heap.size v' c (N + 1) ∧ CutOf up q c (ep p) ∧ Short p c ∧ CutX up p q c ∧ BL w w' := by
 obtain ⟨z, e, h, rfl, hB⟩ := h
 obtain ⟨b0, A0, n0, c0, x0, rfl⟩ := h.ex
 have l := bd_len hB; have lo := bd_lo hB; have hi := bd_hi hB
 have hbl : bl (cman z) ≤ N := bl_le_iff.2 (bd_man hB)
 refine fn_enter (u := 64) (fn := Tryz.f108) Tryz.func108 rfl Fub108_0 [.bool b0, .slice A0 n0 c0, .int .i64 x0, .int .i64 (p : Int), .bool up] (by kernel_rfl) rfl (fun a0 S0 r0 => ?_)
 refine wp_seq (rk Rub108_3 [] Fub108_1 Bub108_2 S0 r0 ?_)
 intro _ _ _ r1 S1
 refine wp_seq (rk Rub108_6 [.st 2 0 (d3 5)] Fub108_4 Bub108_7 S1 r1 ?_)
 intro _ _ r2 _
 refine (done_dy (h.below r2.first) hB hN).mono ?_
 rintro _ V1 ⟨v, rfl, h1, k1⟩
 obtain ⟨b1, A1, n1, c1, x1, rfl⟩ := h1.ex
 replace h1 := h1.lower r2.fs
 refine ⟨[.bool b1, .slice A1 n1 c1, .int .i64 x1], rfl, rfl, rfl, k1, ?_⟩
 obtain ⟨hb1, hx1, p1⟩ := h1.cells
 intro _ _ _ r3 S3
 refine wp_seq (rk Rub108_9 [] Fub108_8 Bub108_7 S3 r3 ?_)
 intro _ _ r4 _
 refine (len_d (p1.lat (r4.at_ 0 _ rfl)).c (by omega)).mono ?_
 rintro _ V2 ⟨rfl, k2⟩
 refine ⟨[.int .i64 (bl (cman z) : Int)], rfl, rfl, rfl, k2, ?_⟩
 intro _ _ _ r5 S5
 refine wp_seq ?_
 refine wp_seq (rk Rub108_11 [] Fub108_10 Bub108_7 S5 r5 ?_)
 intro _ _ _ r6 S6
 refine wp_cond_split (t := decide ((bl (cman z) : Int) ≤ (p : Int))) (S6.cnd (by kernel_rfl)) (fun q1 => ?_) (fun q1 => ?_)
 · have hle : bl (cman z) ≤ p := by have := of_decide_eq_true q1; omega
   have hshort : Short p (Dv z e) := ⟨_, _, Dv_form z e, by rw [sgn_abs]; exact Nat.le_of_lt (Nat.lt_of_lt_of_le (bl_le_iff.1 hle) (Nat.le_refl _))⟩
   refine wp_seq (rk Rub108_13 [.st 1 0 (d3 5)] Fub108_12 Bub108_14 S6 r6 ?_)
   intro _ g7 W7 r7 S7
   exact wp_ret (then_ret (ret_ok S7 [.agg #[.bool b1, .slice A1 n1 c1, .int .i64 x1]] (by kernel_rfl) (⟨_, _, rfl, ⟨z, e, (h1.lat (r7.at_ 0 _ rfl)), rfl, hB.more (by omega)⟩, CutOf.self (Rat.le_of_lt (ep_pos _)), hshort, CutX.few hle, r7.first⟩)))
 · have hlt : p < bl (cman z) := by have := of_decide_eq_false q1; omega
   obtain ⟨k, hk⟩ : ∃ k, bl (cman z) = p + k := ⟨bl (cman z) - p, by omega⟩
   have hkk : IntKind.i64.wrap ((bl (cman z) : Int) - (p : Int)) = (k : Int) := by rw [i64_id (by omega) (by omega)]; omega
   have h0 : z ≠ 0 := by rintro rfl; rw [cman_zero] at hlt; exact absurd hlt (by rw [bl_zero]; omega)
   have hlost := cman_lost h0 (k := k) (by omega)
   have hX : IntKind.i64.wrap (IntKind.i64.wrap (x1 + (bl (cman z) : Int)) - (p : Int)) = cexp z e + (k : Int) := by rw [hx1, i64_id (x := cexp z e + (bl (cman z) : Int)) (by omega) (by omega), i64_id (by omega) (by omega)]; omega
   refine wp_skip ?_
   refine wp_seq (rk Rub108_16 [] Fub108_15 Bub108_7 S6 r6 ?_)
   intro W7 g7 r7 _
   show Calls Tryz.prog 92 #[.slice A1 n1 c1, .int .i64 (IntKind.i64.wrap ((bl (cman z) : Int) - (p : Int)))] W7 _
   refine (shr_d _ k hkk (p1.lat (r7.at_ 0 _ rfl)).c (by omega) (by omega)).mono ?_
   rintro _ V3 ⟨v, rfl, h3, k3⟩
   rw [hlost]
   obtain ⟨A3, n3, c3, rfl⟩ := h3.ex
   replace h3 := h3.lower r7.fs
   refine ⟨[.slice A3 n3 c3, .bool true], rfl, rfl, rfl, k3, ?_⟩
   intro _ _ _ r8 S8
   refine wp_seq ?_
   refine wp_seq (rk Rub108_18 [] Fub108_17 Bub108_7 S8 r8 ?_)
   intro _ _ _ r9 S9
   refine wp_cond_split (t := if true then !(up == b1) else false) (S9.cnd (by kernel_rfl)) (fun q2 => ?_) (fun q2 => ?_)
   · have fin1 : ∀ v W, BL w W → PDy W w.heap.size v (sgn b1 (cman z / 2 ^ k + 1)) (IntKind.i64.wrap (IntKind.i64.wrap (x1 + (bl (cman z) : Int)) - (p : Int))) → _ := fun v W hW hv => (cut_fin hB h0 hp hk (by omega) (a := cman z / 2 ^ k + 1) (up := up) (by rw [if_pos (by rw [← hb1]; exact q2)]) (by omega) hW (by rw [hX, hb1] at hv; exact hv))
     refine rk Rub108_20 [.mv (vs 12)] Fub108_19 Bub108_7 S9 r9 ?_
     intro W10 g10 r10 _
     refine (of_d 1 (by decide) _).mono ?_
     rintro _ V4 ⟨v, rfl, h4, k4⟩
     obtain ⟨A4, n4, c4, rfl⟩ := h4.ex
     replace h4 := h4.lower r10.fs
     refine ⟨[.slice A4 n4 c4], rfl, rfl, rfl, k4, ?_⟩
     intro W11 g11 r11 _
     refine (add_d (h3.lat (r11.at_ 2 _ rfl)).c (h4.lat (r11.at_ 3 _ rfl)).c (by have := bl_div (d := 2 ^ k) hbl; omega) (by decide)).mono ?_
     rintro _ V5 ⟨v, rfl, h5, k5⟩
     obtain ⟨A5, n5, c5, rfl⟩ := h5.ex
     replace h5 := h5.lower r11.fs
     refine ⟨[.slice A5 n5 c5], rfl, rfl, rfl, k5, ?_⟩
     intro _ _ _ r12 S12
     refine wp_seq (rk Rub108_22 [.st 1 0 (d3 13)] Fub108_21 Bub108_23 S12 r12 ?_)
     intro W13 _ r13 _
     show Calls Tryz.prog 46 #[.bool b1, .slice A5 n5 c5, .int .i64 (IntKind.i64.wrap ((IntKind.i64.wrap (x1 + (bl (cman z) : Int))) - (p : Int)))] W13 _
     refine (form_d _ _ (h5.lat (r13.at_ 4 _ rfl)).c (by have := bl_div (d := 2 ^ k) hbl; have := bl_add (K := 4294967295) (a := cman z / 2 ^ k) (b := 1) (by omega) (by decide); omega) (by rw [hX]; omega) (by rw [hX]; omega)).mono ?_
     rintro _ V6 ⟨v, rfl, h6, k6⟩
     obtain ⟨b6, A6, n6, c6, x6, rfl⟩ := h6.ex
     replace h6 := h6.lower r13.fs
     refine ⟨[.bool b6, .slice A6 n6 c6, .int .i64 x6], rfl, rfl, rfl, k6, ?_⟩
     intro _ _ _ r14 S14
     exact rt S14 [.agg #[.bool b6, .slice A6 n6 c6, .int .i64 x6]] (fin1 _ _ r14.first (h6.lat (r14.at_ 5 _ rfl)))
   · have fin2 : ∀ v W, BL w W → PDy W w.heap.size v (sgn b1 (cman z / 2 ^ k)) (IntKind.i64.wrap (IntKind.i64.wrap (x1 + (bl (cman z) : Int)) - (p : Int))) → _ := fun v W hW hv => (cut_fin hB h0 hp hk (by omega) (a := cman z / 2 ^ k) (up := up) (by rw [if_neg (by rw [← hb1]; intro h9; rw [show (if true = true then !(up == b1) else false) = !(up == b1) from rfl] at q2; rw [h9] at q2; cases q2)]; rfl) (by omega) hW (by rw [hX, hb1] at hv; exact hv))
     refine wp_skip ?_
     refine wp_seq (rk Rub108_25 [.st 1 0 (d3 11)] Fub108_24 Bub108_26 S9 r9 ?_)
     intro W10 g10 r10 _
     show Calls Tryz.prog 46 #[.bool b1, .slice A3 n3 c3, .int .i64 (IntKind.i64.wrap ((IntKind.i64.wrap (x1 + (bl (cman z) : Int))) - (p : Int)))] W10 _
     refine (form_d _ _ (h3.lat (r10.at_ 2 _ rfl)).c (by have := bl_div (d := 2 ^ k) hbl; omega) (by rw [hX]; omega) (by rw [hX]; omega)).mono ?_
     rintro _ V7 ⟨v, rfl, h7, k7⟩
     obtain ⟨b7, A7, n7, c7, x7, rfl⟩ := h7.ex
     replace h7 := h7.lower r10.fs
     refine ⟨[.bool b7, .slice A7 n7 c7, .int .i64 x7], rfl, rfl, rfl, k7, ?_⟩
     intro _ g11 W11 r11 S11
     exact rt S11 [.agg #[.bool b7, .slice A7 n7 c7, .int .i64 x7]] (fin2 _ _ r11.first (h7.lat (r11.at_ 3 _ rfl)))
theorem dtrim_q {v : Value} {q : Rat} {N p : Nat} {up : Bool} {w : World} (h : CQ w v q N) (hN : N ≤ 67108864) (hp : 1 ≤ p) (hp2 : p ≤ 67108864) (hT : TB w) :
 Calls Tryz.prog 108 #[v, .int .i64 (p : Int), .bool up] w fun en w' => ∃ v' c, en = .returned v' ∧ PQ w' w.heap.size v' c (N + 1) ∧ CutOf up q c (ep p) ∧ Short p c ∧ BL w w' := by
 refine (dtrim_x h hN hp hp2 hT).mono ?_
 rintro en w' ⟨v, c, h1, h2, h3, h4, _, h5⟩
 exact ⟨v, c, h1, h2, h3, h4, h5⟩
def Fuc64_0 : List Sy := [osl (ps 0 0) 4, U, U, U, U, U, U, U, U, U, U, U, U, U, U, U, U, U, U, U, U, U, U, U, U, U, U, U, U, U, U, U, U, U, U, U, U, U, U, U, U, U, U, U, U]
def Fuc64_1 := fs Fuc64_0 [(2, ps 1 0)]
def Buc64_2 := [rb 25 [vb 0, vs 1, vi 2, vb 3, vs 4, vi 5, vb 6, vs 7, vi 8, vb 9, vs 10, vi 11], bb 28 o6]
def Ruc64_3 : Rg := ⟨1, 12, 1, Fuc64_0, Buc64_2, [pa 1 0], []⟩
def Fuc64_4 := fs Fuc64_1 [(3, ps 2 0), (5, osl (ps 0 0) 4), (6, ps 0 0), (7, dg 0), (8, osl (ps 0 0) 4), (9, ps 0 0), (10, dg 0), (11, ag [vb 0, vs 1, vi 2, vb 0, vs 1, vi 2])]
def Buc64_5 := [rb 25 [vb 0, vs 1, vi 2, vb 3, vs 4, vi 5, vb 6, vs 7, vi 8, vb 9, vs 10, vi 11], bb 28 o6, bb 28 o6]
def Ruc64_6 : Rg := ⟨8, 12, 2, Fuc64_1, Buc64_5, [pv (osl (ps 0 0) 4) 0, pv (ps 0 0) 0, pl (dg 0) 0 0 0, pv (osl (ps 0 0) 4) 0, pv (ps 0 0) 0, pl (dg 0) 0 0 0, pv (ag [vb 0, vs 1, vi 2, vb 0, vs 1, vi 2]) 0, pa 2 0], []⟩
def Buc64_7 := [rb 25 [vb 0, vs 1, vi 2, vb 3, vs 4, vi 5, vb 6, vs 7, vi 8, vb 9, vs 10, vi 11], bb 28 o6, bb 28 [vb 0, vs 1, vi 2, vb 0, vs 1, vi 2]]
def Fuc64_8 := fs Fuc64_4 [(4, li 1)]
def Ruc64_9 : Rg := ⟨1, 12, 3, Fuc64_4, Buc64_7, [pv (li 1) 0], []⟩
def Luc64_10 (jj1 : List Value) : List Sy := [osl (ps 0 0) 4, U, ps 1 0, ps 2 0, li 1, osl (ps 0 0) 4, ps 0 0, dg 0, osl (ps 0 0) 4, ps 0 0, dg 0, ag [vb 0, vs 1, vi 2, vb 0, vs 1, vi 2], jw jj1 0, jw jj1 1, jw jj1 2, jw jj1 3, jw jj1 4, jw jj1 5, jw jj1 6, jw jj1 7, jw jj1 8, jw jj1 9, jw jj1 10, jw jj1 11, jw jj1 12, jw jj1 13, jw jj1 14, jw jj1 15, jw jj1 16, jw jj1 17, jw jj1 18, jw jj1 19, jw jj1 20, jw jj1 21, jw jj1 22, jw jj1 23, jw jj1 24, jw jj1 25, jw jj1 26, jw jj1 27, jw jj1 28, jw jj1 29, jw jj1 30, jw jj1 31, U]
def Luc64_11 (jj1 : List Value) := fs (Luc64_10 jj1) [(4, li 2)]
def Luc64_12 (jj1 : List Value) := fs (Luc64_10 jj1) [(4, li 3)]
def Luc64_13 (jj1 : List Value) := fs (Luc64_10 jj1) [(4, li 4)]
def Juc64_14 : List Nat := [12, 13, 14, 15, 16, 17, 18, 19, 20, 21, 22, 23, 24, 25, 26, 27, 28, 29, 30, 31, 32, 33, 34, 35, 36, 37, 38, 39, 40, 41, 42, 43]
def Buc64_15 := [rb 25 [vb 0, vs 1, vi 2, vb 3, vs 4, vi 5, vb 6, vs 7, vi 8, vb 9, vs 10, vi 11], bb 28 o6, bb 28 (i6 12)]
def Fuc64_16 (jj1 : List Value) := fs (Luc64_10 jj1) [(12, li 1), (13, osl (ps 0 0) 4), (14, li 4), (15, lb true)]
def Ruc64_17 (jj1 : List Value) : Rg := ⟨4, 18, 3, (Luc64_10 jj1), Buc64_15, [pv (li 1) 0, pv (osl (ps 0 0) 4) 0, pv (li 4) 0, pv (lb true) 0], []⟩
def Fuc64_18 (jj1 : List Value) := fs (Fuc64_16 jj1) [(18, osl (ps 0 0) 4), (19, li 1), (20, ps 0 3), (21, dg 3), (22, ps 2 0), (23, dg 12), (24, vi 18), (25, bo .lss (vi 18) (li 0))]
def Ruc64_19 (jj1 : List Value) : Rg := ⟨8, 18, 3, (Fuc64_16 jj1), Buc64_15, [pv (osl (ps 0 0) 4) 0, pv (li 1) 0, pv (ps 0 3) 0, pl (dg 3) 0 0 3, pv (ps 2 0) 0, pl (dg 12) 0 2 0, pc (vi 18) 0 26 [dg 3, dg 12] 1, pv (bo .lss (vi 18) (li 0)) 1], [6]⟩
def Fuc64_20 (jj1 : List Value) := fs (Fuc64_18 jj1) [(26, osl (ps 0 0) 4), (27, li 1), (28, ps 0 3), (29, dg 3), (30, ps 2 0)]
def Ruc64_21 (jj1 : List Value) : Rg := ⟨5, 19, 3, (Fuc64_18 jj1), Buc64_15, [pv (osl (ps 0 0) 4) 0, pv (li 1) 0, pv (ps 0 3) 0, pl (dg 3) 0 0 3, pv (ps 2 0) 0], []⟩
def Buc64_22 := [rb 25 [vb 0, vs 1, vi 2, vb 3, vs 4, vi 5, vb 6, vs 7, vi 8, vb 9, vs 10, vi 11], bb 28 o6, bb 28 [vb 3, vs 4, vi 5, vb 15, vs 16, vi 17]]
def Fuc64_23 (jj1 : List Value) := fs (Fuc64_20 jj1) [(31, osl (ps 0 0) 4), (32, li 1), (33, ps 0 3), (34, dg 3), (35, ps 2 3), (36, dg 15), (37, vi 19), (38, bo .gtr (vi 19) (li 0))]
def Ruc64_24 (jj1 : List Value) : Rg := ⟨8, 19, 3, (Fuc64_20 jj1), Buc64_22, [pv (osl (ps 0 0) 4) 0, pv (li 1) 0, pv (ps 0 3) 0, pl (dg 3) 0 0 3, pv (ps 2 3) 0, pl (dg 15) 0 2 3, pc (vi 19) 0 26 [dg 3, dg 15] 1, pv (bo .gtr (vi 19) (li 0)) 1], [6]⟩
def Fuc64_25 (jj1 : List Value) := fs (Fuc64_23 jj1) [(39, osl (ps 0 0) 4), (40, li 1), (41, ps 0 3), (42, dg 3), (43, ps 2 3)]
def Ruc64_26 (jj1 : List Value) : Rg := ⟨5, 20, 3, (Fuc64_23 jj1), Buc64_22, [pv (osl (ps 0 0) 4) 0, pv (li 1) 0, pv (ps 0 3) 0, pl (dg 3) 0 0 3, pv (ps 2 3) 0], []⟩
def Buc64_27 := [rb 25 [vb 0, vs 1, vi 2, vb 3, vs 4, vi 5, vb 6, vs 7, vi 8, vb 9, vs 10, vi 11], bb 28 o6, bb 28 [vb 3, vs 4, vi 5, vb 3, vs 4, vi 5]]
def Fuc64_28 (jj1 : List Value) := fs (Fuc64_25 jj1) [(4, li 2), (16, li 1), (17, li 2)]
def Ruc64_29 (jj1 : List Value) : Rg := ⟨2, 20, 3, (Fuc64_25 jj1), Buc64_27, [pv (li 1) 0, pv (li 2) 0], []⟩
def Fuc64_30 (jj1 : List Value) := fs (Fuc64_23 jj1) [(4, li 2), (16, li 1), (17, li 2)]
def Ruc64_31 (jj1 : List Value) : Rg := ⟨2, 20, 3, (Fuc64_23 jj1), Buc64_22, [pv (li 1) 0, pv (li 2) 0], []⟩
def Fuc64_32 (jj1 : List Value) := fs (Fuc64_18 jj1) [(31, osl (ps 0 0) 4), (32, li 1), (33, ps 0 3), (34, dg 3), (35, ps 2 3), (36, dg 15), (37, vi 19), (38, bo .gtr (vi 19) (li 0))]
def Ruc64_33 (jj1 : List Value) : Rg := ⟨8, 19, 3, (Fuc64_18 jj1), Buc64_15, [pv (osl (ps 0 0) 4) 0, pv (li 1) 0, pv (ps 0 3) 0, pl (dg 3) 0 0 3, pv (ps 2 3) 0, pl (dg 15) 0 2 3, pc (vi 19) 0 26 [dg 3, dg 15] 1, pv (bo .gtr (vi 19) (li 0)) 1], [6]⟩
def Fuc64_34 (jj1 : List Value) := fs (Fuc64_32 jj1) [(39, osl (ps 0 0) 4), (40, li 1), (41, ps 0 3), (42, dg 3), (43, ps 2 3)]
def Ruc64_35 (jj1 : List Value) : Rg := ⟨5, 20, 3, (Fuc64_32 jj1), Buc64_15, [pv (osl (ps 0 0) 4) 0, pv (li 1) 0, pv (ps 0 3) 0, pl (dg 3) 0 0 3, pv (ps 2 3) 0], []⟩
def Buc64_36 := [rb 25 [vb 0, vs 1, vi 2, vb 3, vs 4, vi 5, vb 6, vs 7, vi 8, vb 9, vs 10, vi 11], bb 28 o6, bb 28 [vb 12, vs 13, vi 14, vb 3, vs 4, vi 5]]
def Fuc64_37 (jj1 : List Value) := fs (Fuc64_34 jj1) [(4, li 2), (16, li 1), (17, li 2)]
def Ruc64_38 (jj1 : List Value) : Rg := ⟨2, 20, 3, (Fuc64_34 jj1), Buc64_36, [pv (li 1) 0, pv (li 2) 0], []⟩
def Fuc64_39 (jj1 : List Value) := fs (Fuc64_32 jj1) [(4, li 2), (16, li 1), (17, li 2)]
def Ruc64_40 (jj1 : List Value) : Rg := ⟨2, 20, 3, (Fuc64_32 jj1), Buc64_15, [pv (li 1) 0, pv (li 2) 0], []⟩
def Fuc64_41 (jj1 : List Value) := fs (Luc64_11 jj1) [(12, li 2), (13, osl (ps 0 0) 4), (14, li 4), (15, lb true)]
def Ruc64_42 (jj1 : List Value) : Rg := ⟨4, 18, 3, (Luc64_11 jj1), Buc64_15, [pv (li 2) 0, pv (osl (ps 0 0) 4) 0, pv (li 4) 0, pv (lb true) 0], []⟩
def Fuc64_43 (jj1 : List Value) := fs (Fuc64_41 jj1) [(18, osl (ps 0 0) 4), (19, li 2), (20, ps 0 6), (21, dg 6), (22, ps 2 0), (23, dg 12), (24, vi 18), (25, bo .lss (vi 18) (li 0))]
def Ruc64_44 (jj1 : List Value) : Rg := ⟨8, 18, 3, (Fuc64_41 jj1), Buc64_15, [pv (osl (ps 0 0) 4) 0, pv (li 2) 0, pv (ps 0 6) 0, pl (dg 6) 0 0 6, pv (ps 2 0) 0, pl (dg 12) 0 2 0, pc (vi 18) 0 26 [dg 6, dg 12] 1, pv (bo .lss (vi 18) (li 0)) 1], [6]⟩
def Fuc64_45 (jj1 : List Value) := fs (Fuc64_43 jj1) [(26, osl (ps 0 0) 4), (27, li 2), (28, ps 0 6), (29, dg 6), (30, ps 2 0)]
def Ruc64_46 (jj1 : List Value) : Rg := ⟨5, 19, 3, (Fuc64_43 jj1), Buc64_15, [pv (osl (ps 0 0) 4) 0, pv (li 2) 0, pv (ps 0 6) 0, pl (dg 6) 0 0 6, pv (ps 2 0) 0], []⟩
def Buc64_47 := [rb 25 [vb 0, vs 1, vi 2, vb 3, vs 4, vi 5, vb 6, vs 7, vi 8, vb 9, vs 10, vi 11], bb 28 o6, bb 28 [vb 6, vs 7, vi 8, vb 15, vs 16, vi 17]]
def Fuc64_48 (jj1 : List Value) := fs (Fuc64_45 jj1) [(31, osl (ps 0 0) 4), (32, li 2), (33, ps 0 6), (34, dg 6), (35, ps 2 3), (36, dg 15), (37, vi 19), (38, bo .gtr (vi 19) (li 0))]
def Ruc64_49 (jj1 : List Value) : Rg := ⟨8, 19, 3, (Fuc64_45 jj1), Buc64_47, [pv (osl (ps 0 0) 4) 0, pv (li 2) 0, pv (ps 0 6) 0, pl (dg 6) 0 0 6, pv (ps 2 3) 0, pl (dg 15) 0 2 3, pc (vi 19) 0 26 [dg 6, dg 15] 1, pv (bo .gtr (vi 19) (li 0)) 1], [6]⟩
def Fuc64_50 (jj1 : List Value) := fs (Fuc64_48 jj1) [(39, osl (ps 0 0) 4), (40, li 2), (41, ps 0 6), (42, dg 6), (43, ps 2 3)]
def Ruc64_51 (jj1 : List Value) : Rg := ⟨5, 20, 3, (Fuc64_48 jj1), Buc64_47, [pv (osl (ps 0 0) 4) 0, pv (li 2) 0, pv (ps 0 6) 0, pl (dg 6) 0 0 6, pv (ps 2 3) 0], []⟩
def Buc64_52 := [rb 25 [vb 0, vs 1, vi 2, vb 3, vs 4, vi 5, vb 6, vs 7, vi 8, vb 9, vs 10, vi 11], bb 28 o6, bb 28 [vb 6, vs 7, vi 8, vb 6, vs 7, vi 8]]
def Fuc64_53 (jj1 : List Value) := fs (Fuc64_50 jj1) [(4, li 3), (16, li 2), (17, li 3)]
def Ruc64_54 (jj1 : List Value) : Rg := ⟨2, 20, 3, (Fuc64_50 jj1), Buc64_52, [pv (li 2) 0, pv (li 3) 0], []⟩
def Fuc64_55 (jj1 : List Value) := fs (Fuc64_48 jj1) [(4, li 3), (16, li 2), (17, li 3)]
def Ruc64_56 (jj1 : List Value) : Rg := ⟨2, 20, 3, (Fuc64_48 jj1), Buc64_47, [pv (li 2) 0, pv (li 3) 0], []⟩
def Fuc64_57 (jj1 : List Value) := fs (Fuc64_43 jj1) [(31, osl (ps 0 0) 4), (32, li 2), (33, ps 0 6), (34, dg 6), (35, ps 2 3), (36, dg 15), (37, vi 19), (38, bo .gtr (vi 19) (li 0))]
def Ruc64_58 (jj1 : List Value) : Rg := ⟨8, 19, 3, (Fuc64_43 jj1), Buc64_15, [pv (osl (ps 0 0) 4) 0, pv (li 2) 0, pv (ps 0 6) 0, pl (dg 6) 0 0 6, pv (ps 2 3) 0, pl (dg 15) 0 2 3, pc (vi 19) 0 26 [dg 6, dg 15] 1, pv (bo .gtr (vi 19) (li 0)) 1], [6]⟩
def Fuc64_59 (jj1 : List Value) := fs (Fuc64_57 jj1) [(39, osl (ps 0 0) 4), (40, li 2), (41, ps 0 6), (42, dg 6), (43, ps 2 3)]
def Ruc64_60 (jj1 : List Value) : Rg := ⟨5, 20, 3, (Fuc64_57 jj1), Buc64_15, [pv (osl (ps 0 0) 4) 0, pv (li 2) 0, pv (ps 0 6) 0, pl (dg 6) 0 0 6, pv (ps 2 3) 0], []⟩
def Buc64_61 := [rb 25 [vb 0, vs 1, vi 2, vb 3, vs 4, vi 5, vb 6, vs 7, vi 8, vb 9, vs 10, vi 11], bb 28 o6, bb 28 [vb 12, vs 13, vi 14, vb 6, vs 7, vi 8]]
def Fuc64_62 (jj1 : List Value) := fs (Fuc64_59 jj1) [(4, li 3), (16, li 2), (17, li 3)]
def Ruc64_63 (jj1 : List Value) : Rg := ⟨2, 20, 3, (Fuc64_59 jj1), Buc64_61, [pv (li 2) 0, pv (li 3) 0], []⟩
def Fuc64_64 (jj1 : List Value) := fs (Fuc64_57 jj1) [(4, li 3), (16, li 2), (17, li 3)]
def Ruc64_65 (jj1 : List Value) : Rg := ⟨2, 20, 3, (Fuc64_57 jj1), Buc64_15, [pv (li 2) 0, pv (li 3) 0], []⟩
def Fuc64_66 (jj1 : List Value) := fs (Luc64_12 jj1) [(12, li 3), (13, osl (ps 0 0) 4), (14, li 4), (15, lb true)]
def Ruc64_67 (jj1 : List Value) : Rg := ⟨4, 18, 3, (Luc64_12 jj1), Buc64_15, [pv (li 3) 0, pv (osl (ps 0 0) 4) 0, pv (li 4) 0, pv (lb true) 0], []⟩
def Fuc64_68 (jj1 : List Value) := fs (Fuc64_66 jj1) [(18, osl (ps 0 0) 4), (19, li 3), (20, ps 0 9), (21, dg 9), (22, ps 2 0), (23, dg 12), (24, vi 18), (25, bo .lss (vi 18) (li 0))]
def Ruc64_69 (jj1 : List Value) : Rg := ⟨8, 18, 3, (Fuc64_66 jj1), Buc64_15, [pv (osl (ps 0 0) 4) 0, pv (li 3) 0, pv (ps 0 9) 0, pl (dg 9) 0 0 9, pv (ps 2 0) 0, pl (dg 12) 0 2 0, pc (vi 18) 0 26 [dg 9, dg 12] 1, pv (bo .lss (vi 18) (li 0)) 1], [6]⟩
def Fuc64_70 (jj1 : List Value) := fs (Fuc64_68 jj1) [(26, osl (ps 0 0) 4), (27, li 3), (28, ps 0 9), (29, dg 9), (30, ps 2 0)]
def Ruc64_71 (jj1 : List Value) : Rg := ⟨5, 19, 3, (Fuc64_68 jj1), Buc64_15, [pv (osl (ps 0 0) 4) 0, pv (li 3) 0, pv (ps 0 9) 0, pl (dg 9) 0 0 9, pv (ps 2 0) 0], []⟩
def Buc64_72 := [rb 25 [vb 0, vs 1, vi 2, vb 3, vs 4, vi 5, vb 6, vs 7, vi 8, vb 9, vs 10, vi 11], bb 28 o6, bb 28 [vb 9, vs 10, vi 11, vb 15, vs 16, vi 17]]
def Fuc64_73 (jj1 : List Value) := fs (Fuc64_70 jj1) [(31, osl (ps 0 0) 4), (32, li 3), (33, ps 0 9), (34, dg 9), (35, ps 2 3), (36, dg 15), (37, vi 19), (38, bo .gtr (vi 19) (li 0))]
def Ruc64_74 (jj1 : List Value) : Rg := ⟨8, 19, 3, (Fuc64_70 jj1), Buc64_72, [pv (osl (ps 0 0) 4) 0, pv (li 3) 0, pv (ps 0 9) 0, pl (dg 9) 0 0 9, pv (ps 2 3) 0, pl (dg 15) 0 2 3, pc (vi 19) 0 26 [dg 9, dg 15] 1, pv (bo .gtr (vi 19) (li 0)) 1], [6]⟩
def Fuc64_75 (jj1 : List Value) := fs (Fuc64_73 jj1) [(39, osl (ps 0 0) 4), (40, li 3), (41, ps 0 9), (42, dg 9), (43, ps 2 3)]
def Ruc64_76 (jj1 : List Value) : Rg := ⟨5, 20, 3, (Fuc64_73 jj1), Buc64_72, [pv (osl (ps 0 0) 4) 0, pv (li 3) 0, pv (ps 0 9) 0, pl (dg 9) 0 0 9, pv (ps 2 3) 0], []⟩
def Buc64_77 := [rb 25 [vb 0, vs 1, vi 2, vb 3, vs 4, vi 5, vb 6, vs 7, vi 8, vb 9, vs 10, vi 11], bb 28 o6, bb 28 [vb 9, vs 10, vi 11, vb 9, vs 10, vi 11]]
def Fuc64_78 (jj1 : List Value) := fs (Fuc64_75 jj1) [(4, li 4), (16, li 3), (17, li 4)]
def Ruc64_79 (jj1 : List Value) : Rg := ⟨2, 20, 3, (Fuc64_75 jj1), Buc64_77, [pv (li 3) 0, pv (li 4) 0], []⟩
def Fuc64_80 (jj1 : List Value) := fs (Fuc64_73 jj1) [(4, li 4), (16, li 3), (17, li 4)]
def Ruc64_81 (jj1 : List Value) : Rg := ⟨2, 20, 3, (Fuc64_73 jj1), Buc64_72, [pv (li 3) 0, pv (li 4) 0], []⟩
def Fuc64_82 (jj1 : List Value) := fs (Fuc64_68 jj1) [(31, osl (ps 0 0) 4), (32, li 3), (33, ps 0 9), (34, dg 9), (35, ps 2 3), (36, dg 15), (37, vi 19), (38, bo .gtr (vi 19) (li 0))]
def Ruc64_83 (jj1 : List Value) : Rg := ⟨8, 19, 3, (Fuc64_68 jj1), Buc64_15, [pv (osl (ps 0 0) 4) 0, pv (li 3) 0, pv (ps 0 9) 0, pl (dg 9) 0 0 9, pv (ps 2 3) 0, pl (dg 15) 0 2 3, pc (vi 19) 0 26 [dg 9, dg 15] 1, pv (bo .gtr (vi 19) (li 0)) 1], [6]⟩
def Fuc64_84 (jj1 : List Value) := fs (Fuc64_82 jj1) [(39, osl (ps 0 0) 4), (40, li 3), (41, ps 0 9), (42, dg 9), (43, ps 2 3)]
def Ruc64_85 (jj1 : List Value) : Rg := ⟨5, 20, 3, (Fuc64_82 jj1), Buc64_15, [pv (osl (ps 0 0) 4) 0, pv (li 3) 0, pv (ps 0 9) 0, pl (dg 9) 0 0 9, pv (ps 2 3) 0], []⟩
def Buc64_86 := [rb 25 [vb 0, vs 1, vi 2, vb 3, vs 4, vi 5, vb 6, vs 7, vi 8, vb 9, vs 10, vi 11], bb 28 o6, bb 28 [vb 12, vs 13, vi 14, vb 9, vs 10, vi 11]]
def Fuc64_87 (jj1 : List Value) := fs (Fuc64_84 jj1) [(4, li 4), (16, li 3), (17, li 4)]
def Ruc64_88 (jj1 : List Value) : Rg := ⟨2, 20, 3, (Fuc64_84 jj1), Buc64_86, [pv (li 3) 0, pv (li 4) 0], []⟩
def Fuc64_89 (jj1 : List Value) := fs (Fuc64_82 jj1) [(4, li 4), (16, li 3), (17, li 4)]
def Ruc64_90 (jj1 : List Value) : Rg := ⟨2, 20, 3, (Fuc64_82 jj1), Buc64_15, [pv (li 3) 0, pv (li 4) 0], []⟩
def Fuc64_91 (jj1 : List Value) := fs (Luc64_13 jj1) [(12, li 4), (13, osl (ps 0 0) 4), (14, li 4), (15, lb false)]
def Ruc64_92 (jj1 : List Value) : Rg := ⟨4, 18, 3, (Luc64_13 jj1), Buc64_15, [pv (li 4) 0, pv (osl (ps 0 0) 4) 0, pv (li 4) 0, pv (lb false) 0], []⟩
def Fuc64_93 (jj1 : List Value) := fs (Fuc64_91 jj1) [(44, ig 12)]
def Ruc64_94 (jj1 : List Value) : Rg := ⟨1, 18, 3, (Fuc64_91 jj1), Buc64_15, [pl (ig 12) 0 2 0], []⟩
def Buc64_95 := [rb 25 [vb 0, vs 1, vi 2, vb 3, vs 4, vi 5, vb 6, vs 7, vi 8, vb 9, vs 10, vi 11], bb 28 (i6 12), bb 28 (i6 12)]
theorem dspan_q {eb : Nat → Bool} {eA : Nat → Option Addr} {en ec : Nat → Nat} {ex : Nat → Int} {q : Nat → Rat} {N : Nat} {w : World} {g0 : Nat} (hrow : w.heap[g0]? = some (.cells #[.bool (eb 0), .slice (eA 0) (en 0) (ec 0), .int .i64 (ex 0), .bool (eb 1), .slice (eA 1) (en 1) (ec 1), .int .i64 (ex 1), .bool (eb 2), .slice (eA 2) (en 2) (ec 2), .int .i64 (ex 2), .bool (eb 3), .slice (eA 3) (en 3) (ec 3), .int .i64 (ex 3)] 25 (0, 0)))
 (h : ∀ k, k < 4 → CQ w (.agg #[.bool (eb k), .slice (eA k) (en k) (ec k), .int .i64 (ex k)]) (q k) N) (hN : N ≤ 16777215) (hT : TB w) :
 Calls Tryz.prog 64 #[.slice (some ⟨g0, 0, none⟩) 4 4] w fun en' w' => ∃ i j, i < 4 ∧ j < 4 ∧ (∀ k, k < 4 → q i ≤ q k ∧ q k ≤ q j) ∧ en' = .returned (.agg #[.bool (eb i), .slice (eA i) (en i) (ec i), .int .i64 (ex i), .bool (eb j), .slice (eA j) (en j) (ec j), .int .i64 (ex j)]) ∧ BL w w' := by
 refine fn_enter2 (u := 64) (fn := Tryz.f64) Tryz.func64 rfl Fuc64_0 [rb 25 [vb 0, vs 1, vi 2, vb 3, vs 4, vi 5, vb 6, vs 7, vi 8, vb 9, vs 10, vi 11]] [.bool (eb 0), .slice (eA 0) (en 0) (ec 0), .int .i64 (ex 0), .bool (eb 1), .slice (eA 1) (en 1) (ec 1), .int .i64 (ex 1), .bool (eb 2), .slice (eA 2) (en 2) (ec 2), .int .i64 (ex 2), .bool (eb 3), .slice (eA 3) (en 3) (ec 3), .int .i64 (ex 3)] (fun _ => g0) (by kernel_rfl) rfl rfl (by
  intro b x hx
  match b, hx with
  | 0, hx => injection hx with hx; subst hx; exact hrow
  | b + 1, hx => simp at hx) (fun a0 S0 r0 => ?_)
 refine wp_seq (rk Ruc64_3 [] Fuc64_1 Buc64_2 S0 r0 ?_)
 intro _ _ _ r1 S1
 refine wp_seq (rk Ruc64_6 [.st 2 0 [vb 0, vs 1, vi 2, vb 0, vs 1, vi 2]] Fuc64_4 Buc64_7 S1 r1 ?_)
 intro _ _ _ r2 S2
 refine wp_seq ?_
 refine wp_seq (rk Ruc64_9 [] Fuc64_8 Buc64_7 S2 r2 ?_)
 intro _ _ _ r3 S3
 refine wp_block ?_
 refine wp_loop_n (fun n a W => match n with | 3 => ∃ (jj1 : List Value) (i j : Nat) (g : Nat → Nat), BL w W ∧ St w (Luc64_10 jj1) Buc64_15 [.bool (eb 0), .slice (eA 0) (en 0) (ec 0), .int .i64 (ex 0), .bool (eb 1), .slice (eA 1) (en 1) (ec 1), .int .i64 (ex 1), .bool (eb 2), .slice (eA 2) (en 2) (ec 2), .int .i64 (ex 2), .bool (eb 3), .slice (eA 3) (en 3) (ec 3), .int .i64 (ex 3), .bool (eb i), .slice (eA i) (en i) (ec i), .int .i64 (ex i), .bool (eb j), .slice (eA j) (en j) (ec j), .int .i64 (ex j)] g a W ∧ (i < 4 ∧ j < 4 ∧ ∀ k, k < 1 → q i ≤ q k ∧ q k ≤ q j) | 2 => ∃ (jj1 : List Value) (i j : Nat) (g : Nat → Nat), BL w W ∧ St w (Luc64_11 jj1) Buc64_15 [.bool (eb 0), .slice (eA 0) (en 0) (ec 0), .int .i64 (ex 0), .bool (eb 1), .slice (eA 1) (en 1) (ec 1), .int .i64 (ex 1), .bool (eb 2), .slice (eA 2) (en 2) (ec 2), .int .i64 (ex 2), .bool (eb 3), .slice (eA 3) (en 3) (ec 3), .int .i64 (ex 3), .bool (eb i), .slice (eA i) (en i) (ec i), .int .i64 (ex i), .bool (eb j), .slice (eA j) (en j) (ec j), .int .i64 (ex j)] g a W ∧ (i < 4 ∧ j < 4 ∧ ∀ k, k < 2 → q i ≤ q k ∧ q k ≤ q j) | 1 => ∃ (jj1 : List Value) (i j : Nat) (g : Nat → Nat), BL w W ∧ St w (Luc64_12 jj1) Buc64_15 [.bool (eb 0), .slice (eA 0) (en 0) (ec 0), .int .i64 (ex 0), .bool (eb 1), .slice (eA 1) (en 1) (ec 1), .int .i64 (ex 1), .bool (eb 2), .slice (eA 2) (en 2) (ec 2), .int .i64 (ex 2), .bool (eb 3), .slice (eA 3) (en 3) (ec 3), .int .i64 (ex 3), .bool (eb i), .slice (eA i) (en i) (ec i), .int .i64 (ex i), .bool (eb j), .slice (eA j) (en j) (ec j), .int .i64 (ex j)] g a W ∧ (i < 4 ∧ j < 4 ∧ ∀ k, k < 3 → q i ≤ q k ∧ q k ≤ q j) | 0 => ∃ (jj1 : List Value) (i j : Nat) (g : Nat → Nat), BL w W ∧ St w (Luc64_13 jj1) Buc64_15 [.bool (eb 0), .slice (eA 0) (en 0) (ec 0), .int .i64 (ex 0), .bool (eb 1), .slice (eA 1) (en 1) (ec 1), .int .i64 (ex 1), .bool (eb 2), .slice (eA 2) (en 2) (ec 2), .int .i64 (ex 2), .bool (eb 3), .slice (eA 3) (en 3) (ec 3), .int .i64 (ex 3), .bool (eb i), .slice (eA i) (en i) (ec i), .int .i64 (ex i), .bool (eb j), .slice (eA j) (en j) (ec j), .int .i64 (ex j)] g a W ∧ (i < 4 ∧ j < 4 ∧ ∀ k, k < 4 → q i ≤ q k ∧ q k ≤ q j) | _ => False) (n := 3) ⟨jv S3 Juc64_14, 0, 0, _, r3.first, St.to S3 [0, 1, 2] (by kernel_rfl) (by kernel_rfl) (by decide) rfl, by omega, by omega, fun k hk => by obtain rfl : k = 0 := (by omega); exact ⟨Rat.le_refl, Rat.le_refl⟩⟩ ?_
 intro n a W hI
 match n, hI with
 | 3, hI =>
   obtain ⟨jj1, i, j, g4, b4, S4, hi, hj, hq⟩ := hI
   have r4 : Reach 64 w [W] W := .of_below b4
   refine wp_seq ?_
   refine wp_seq (rk (Ruc64_17 jj1) [] (Fuc64_16 jj1) Buc64_15 S4 r4 ?_)
   intro a5 g5 W5 r5 S5
   refine wp_cond_true (S5.cnd (by kernel_rfl)) ?_
   refine wp_skip ?_
   refine wp_seq ?_
   refine wp_block ?_
   refine wp_seq ?_
   refine wp_seq (rk (Ruc64_19 jj1) [] (Fuc64_18 jj1) Buc64_15 S5 r5 ?_)
   intro W6 g6 r6 _
   refine (dorder_q ((h 1 (by omega)).below r6.first) ((h i hi).below r6.first) (by omega) (tb hT r6)).mono ?_
   rintro _ V1 ⟨rfl, k1⟩
   refine ⟨[.int .i64 (cmpQ (q 1) (q i))], rfl, rfl, rfl, k1, ?_⟩
   intro a7 g7 W7 r7 S7
   refine wp_cond_split (t := decide ((cmpQ (q 1) (q i)) < 0)) (S7.cnd (by kernel_rfl)) (fun q1 => ?_) (fun q1 => ?_)
   · refine rk (Ruc64_21 jj1) [.st 2 0 (d3 3)] (Fuc64_20 jj1) Buc64_22 S7 r7 ?_
     intro a8 g8 W8 r8 S8
     refine wp_seq (rk (Ruc64_24 jj1) [] (Fuc64_23 jj1) Buc64_22 S8 r8 ?_)
     intro W9 g9 r9 _
     refine (dorder_q ((h 1 (by omega)).below r9.first) ((h j hj).below r9.first) (by omega) (tb hT r9)).mono ?_
     rintro _ V2 ⟨rfl, k2⟩
     refine ⟨[.int .i64 (cmpQ (q 1) (q j))], rfl, rfl, rfl, k2, ?_⟩
     intro a10 g10 W10 r10 S10
     refine wp_cond_split (t := decide ((cmpQ (q 1) (q j)) > 0)) (S10.cnd (by kernel_rfl)) (fun q2 => ?_) (fun q2 => ?_)
     · refine rk (Ruc64_26 jj1) [.st 2 3 (d3 3)] (Fuc64_25 jj1) Buc64_27 S10 r10 ?_
       intro a11 g11 W11 r11 S11
       refine rk (Ruc64_29 jj1) [.mv (li 2)] (Fuc64_28 jj1) Buc64_27 S11 r11 ?_
       intro a12 g12 W12 r12 S12
       exact ⟨2, by omega, jv S12 Juc64_14, 1, 1, _, r12.first, St.to S12 [0, 1, 2] (by kernel_rfl) (by kernel_rfl) (by decide) rfl, by omega, by omega, span_step hq q1 q2⟩
     · refine wp_skip ?_
       refine rk (Ruc64_31 jj1) [.mv (li 2)] (Fuc64_30 jj1) Buc64_22 S10 r10 ?_
       intro a11 g11 W11 r11 S11
       exact ⟨2, by omega, jv S11 Juc64_14, 1, j, _, r11.first, St.to S11 [0, 1, 2] (by kernel_rfl) (by kernel_rfl) (by decide) rfl, by omega, by omega, span_step hq q1 q2⟩
   · refine wp_skip ?_
     refine wp_seq (rk (Ruc64_33 jj1) [] (Fuc64_32 jj1) Buc64_15 S7 r7 ?_)
     intro W8 g8 r8 _
     refine (dorder_q ((h 1 (by omega)).below r8.first) ((h j hj).below r8.first) (by omega) (tb hT r8)).mono ?_
     rintro _ V3 ⟨rfl, k3⟩
     refine ⟨[.int .i64 (cmpQ (q 1) (q j))], rfl, rfl, rfl, k3, ?_⟩
     intro a9 g9 W9 r9 S9
     refine wp_cond_split (t := decide ((cmpQ (q 1) (q j)) > 0)) (S9.cnd (by kernel_rfl)) (fun q3 => ?_) (fun q3 => ?_)
     · refine rk (Ruc64_35 jj1) [.st 2 3 (d3 3)] (Fuc64_34 jj1) Buc64_36 S9 r9 ?_
       intro a10 g10 W10 r10 S10
       refine rk (Ruc64_38 jj1) [.mv (li 2)] (Fuc64_37 jj1) Buc64_36 S10 r10 ?_
       intro a11 g11 W11 r11 S11
       exact ⟨2, by omega, jv S11 Juc64_14, i, 1, _, r11.first, St.to S11 [0, 1, 2] (by kernel_rfl) (by kernel_rfl) (by decide) rfl, by omega, by omega, span_step hq q1 q3⟩
     · refine wp_skip ?_
       refine rk (Ruc64_40 jj1) [.mv (li 2)] (Fuc64_39 jj1) Buc64_15 S9 r9 ?_
       intro a10 g10 W10 r10 S10
       exact ⟨2, by omega, jv S10 Juc64_14, i, j, _, r10.first, St.to S10 [0, 1, 2] (by kernel_rfl) (by kernel_rfl) (by decide) rfl, by omega, by omega, span_step hq q1 q3⟩
 | 2, hI =>
   obtain ⟨jj1, i, j, g4, b4, S4, hi, hj, hq⟩ := hI
   have r4 : Reach 64 w [W] W := .of_below b4
   refine wp_seq ?_
   refine wp_seq (rk (Ruc64_42 jj1) [] (Fuc64_41 jj1) Buc64_15 S4 r4 ?_)
   intro a5 g5 W5 r5 S5
   refine wp_cond_true (S5.cnd (by kernel_rfl)) ?_
   refine wp_skip ?_
   refine wp_seq ?_
   refine wp_block ?_
   refine wp_seq ?_
   refine wp_seq (rk (Ruc64_44 jj1) [] (Fuc64_43 jj1) Buc64_15 S5 r5 ?_)
   intro W6 g6 r6 _
   refine (dorder_q ((h 2 (by omega)).below r6.first) ((h i hi).below r6.first) (by omega) (tb hT r6)).mono ?_
   rintro _ V4 ⟨rfl, k4⟩
   refine ⟨[.int .i64 (cmpQ (q 2) (q i))], rfl, rfl, rfl, k4, ?_⟩
   intro a7 g7 W7 r7 S7
   refine wp_cond_split (t := decide ((cmpQ (q 2) (q i)) < 0)) (S7.cnd (by kernel_rfl)) (fun q1 => ?_) (fun q1 => ?_)
   · refine rk (Ruc64_46 jj1) [.st 2 0 (d3 6)] (Fuc64_45 jj1) Buc64_47 S7 r7 ?_
     intro a8 g8 W8 r8 S8
     refine wp_seq (rk (Ruc64_49 jj1) [] (Fuc64_48 jj1) Buc64_47 S8 r8 ?_)
     intro W9 g9 r9 _
     refine (dorder_q ((h 2 (by omega)).below r9.first) ((h j hj).below r9.first) (by omega) (tb hT r9)).mono ?_
     rintro _ V5 ⟨rfl, k5⟩
     refine ⟨[.int .i64 (cmpQ (q 2) (q j))], rfl, rfl, rfl, k5, ?_⟩
     intro a10 g10 W10 r10 S10
     refine wp_cond_split (t := decide ((cmpQ (q 2) (q j)) > 0)) (S10.cnd (by kernel_rfl)) (fun q2 => ?_) (fun q2 => ?_)
     · refine rk (Ruc64_51 jj1) [.st 2 3 (d3 6)] (Fuc64_50 jj1) Buc64_52 S10 r10 ?_
       intro a11 g11 W11 r11 S11
       refine rk (Ruc64_54 jj1) [.mv (li 3)] (Fuc64_53 jj1) Buc64_52 S11 r11 ?_
       intro a12 g12 W12 r12 S12
       exact ⟨1, by omega, jv S12 Juc64_14, 2, 2, _, r12.first, St.to S12 [0, 1, 2] (by kernel_rfl) (by kernel_rfl) (by decide) rfl, by omega, by omega, span_step hq q1 q2⟩
     · refine wp_skip ?_
       refine rk (Ruc64_56 jj1) [.mv (li 3)] (Fuc64_55 jj1) Buc64_47 S10 r10 ?_
       intro a11 g11 W11 r11 S11
       exact ⟨1, by omega, jv S11 Juc64_14, 2, j, _, r11.first, St.to S11 [0, 1, 2] (by kernel_rfl) (by kernel_rfl) (by decide) rfl, by omega, by omega, span_step hq q1 q2⟩
   · refine wp_skip ?_
     refine wp_seq (rk (Ruc64_58 jj1) [] (Fuc64_57 jj1) Buc64_15 S7 r7 ?_)
     intro W8 g8 r8 _
     refine (dorder_q ((h 2 (by omega)).below r8.first) ((h j hj).below r8.first) (by omega) (tb hT r8)).mono ?_
     rintro _ V6 ⟨rfl, k6⟩
     refine ⟨[.int .i64 (cmpQ (q 2) (q j))], rfl, rfl, rfl, k6, ?_⟩
     intro a9 g9 W9 r9 S9
     refine wp_cond_split (t := decide ((cmpQ (q 2) (q j)) > 0)) (S9.cnd (by kernel_rfl)) (fun q3 => ?_) (fun q3 => ?_)
     · refine rk (Ruc64_60 jj1) [.st 2 3 (d3 6)] (Fuc64_59 jj1) Buc64_61 S9 r9 ?_
       intro a10 g10 W10 r10 S10
       refine rk (Ruc64_63 jj1) [.mv (li 3)] (Fuc64_62 jj1) Buc64_61 S10 r10 ?_
       intro a11 g11 W11 r11 S11
       exact ⟨1, by omega, jv S11 Juc64_14, i, 2, _, r11.first, St.to S11 [0, 1, 2] (by kernel_rfl) (by kernel_rfl) (by decide) rfl, by omega, by omega, span_step hq q1 q3⟩
     · refine wp_skip ?_
       refine rk (Ruc64_65 jj1) [.mv (li 3)] (Fuc64_64 jj1) Buc64_15 S9 r9 ?_
       intro a10 g10 W10 r10 S10
       exact ⟨1, by omega, jv S10 Juc64_14, i, j, _, r10.first, St.to S10 [0, 1, 2] (by kernel_rfl) (by kernel_rfl) (by decide) rfl, by omega, by omega, span_step hq q1 q3⟩
 | 1, hI =>
   obtain ⟨jj1, i, j, g4, b4, S4, hi, hj, hq⟩ := hI
   have r4 : Reach 64 w [W] W := .of_below b4
   refine wp_seq ?_
   refine wp_seq (rk (Ruc64_67 jj1) [] (Fuc64_66 jj1) Buc64_15 S4 r4 ?_)
   intro a5 g5 W5 r5 S5
   refine wp_cond_true (S5.cnd (by kernel_rfl)) ?_
   refine wp_skip ?_
   refine wp_seq ?_
   refine wp_block ?_
   refine wp_seq ?_
   refine wp_seq (rk (Ruc64_69 jj1) [] (Fuc64_68 jj1) Buc64_15 S5 r5 ?_)
   intro W6 g6 r6 _
   refine (dorder_q ((h 3 (by omega)).below r6.first) ((h i hi).below r6.first) (by omega) (tb hT r6)).mono ?_
   rintro _ V7 ⟨rfl, k7⟩
   refine ⟨[.int .i64 (cmpQ (q 3) (q i))], rfl, rfl, rfl, k7, ?_⟩
   intro a7 g7 W7 r7 S7
   refine wp_cond_split (t := decide ((cmpQ (q 3) (q i)) < 0)) (S7.cnd (by kernel_rfl)) (fun q1 => ?_) (fun q1 => ?_)
   · refine rk (Ruc64_71 jj1) [.st 2 0 (d3 9)] (Fuc64_70 jj1) Buc64_72 S7 r7 ?_
     intro a8 g8 W8 r8 S8
     refine wp_seq (rk (Ruc64_74 jj1) [] (Fuc64_73 jj1) Buc64_72 S8 r8 ?_)
     intro W9 g9 r9 _
     refine (dorder_q ((h 3 (by omega)).below r9.first) ((h j hj).below r9.first) (by omega) (tb hT r9)).mono ?_
     rintro _ V8 ⟨rfl, k8⟩
     refine ⟨[.int .i64 (cmpQ (q 3) (q j))], rfl, rfl, rfl, k8, ?_⟩
     intro a10 g10 W10 r10 S10
     refine wp_cond_split (t := decide ((cmpQ (q 3) (q j)) > 0)) (S10.cnd (by kernel_rfl)) (fun q2 => ?_) (fun q2 => ?_)
     · refine rk (Ruc64_76 jj1) [.st 2 3 (d3 9)] (Fuc64_75 jj1) Buc64_77 S10 r10 ?_
       intro a11 g11 W11 r11 S11
       refine rk (Ruc64_79 jj1) [.mv (li 4)] (Fuc64_78 jj1) Buc64_77 S11 r11 ?_
       intro a12 g12 W12 r12 S12
       exact ⟨0, by omega, jv S12 Juc64_14, 3, 3, _, r12.first, St.to S12 [0, 1, 2] (by kernel_rfl) (by kernel_rfl) (by decide) rfl, by omega, by omega, span_step hq q1 q2⟩
     · refine wp_skip ?_
       refine rk (Ruc64_81 jj1) [.mv (li 4)] (Fuc64_80 jj1) Buc64_72 S10 r10 ?_
       intro a11 g11 W11 r11 S11
       exact ⟨0, by omega, jv S11 Juc64_14, 3, j, _, r11.first, St.to S11 [0, 1, 2] (by kernel_rfl) (by kernel_rfl) (by decide) rfl, by omega, by omega, span_step hq q1 q2⟩
   · refine wp_skip ?_
     refine wp_seq (rk (Ruc64_83 jj1) [] (Fuc64_82 jj1) Buc64_15 S7 r7 ?_)
     intro W8 g8 r8 _
     refine (dorder_q ((h 3 (by omega)).below r8.first) ((h j hj).below r8.first) (by omega) (tb hT r8)).mono ?_
     rintro _ V9 ⟨rfl, k9⟩
     refine ⟨[.int .i64 (cmpQ (q 3) (q j))], rfl, rfl, rfl, k9, ?_⟩
     intro a9 g9 W9 r9 S9
     refine wp_cond_split (t := decide ((cmpQ (q 3) (q j)) > 0)) (S9.cnd (by kernel_rfl)) (fun q3 => ?_) (fun q3 => ?_)
     · refine rk (Ruc64_85 jj1) [.st 2 3 (d3 9)] (Fuc64_84 jj1) Buc64_86 S9 r9 ?_
       intro a10 g10 W10 r10 S10
       refine rk (Ruc64_88 jj1) [.mv (li 4)] (Fuc64_87 jj1) Buc64_86 S10 r10 ?_
       intro a11 g11 W11 r11 S11
       exact ⟨0, by omega, jv S11 Juc64_14, i, 3, _, r11.first, St.to S11 [0, 1, 2] (by kernel_rfl) (by kernel_rfl) (by decide) rfl, by omega, by omega, span_step hq q1 q3⟩
     · refine wp_skip ?_
       refine rk (Ruc64_90 jj1) [.mv (li 4)] (Fuc64_89 jj1) Buc64_15 S9 r9 ?_
       intro a10 g10 W10 r10 S10
       exact ⟨0, by omega, jv S10 Juc64_14, i, j, _, r10.first, St.to S10 [0, 1, 2] (by kernel_rfl) (by kernel_rfl) (by decide) rfl, by omega, by omega, span_step hq q1 q3⟩
 | 0, hI =>
   obtain ⟨jj1, i, j, g4, b4, S4, hi, hj, hq⟩ := hI
   have r4 : Reach 64 w [W] W := .of_below b4
   refine wp_seq ?_
   refine wp_seq (rk (Ruc64_92 jj1) [] (Fuc64_91 jj1) Buc64_15 S4 r4 ?_)
   intro a5 g5 W5 r5 S5
   refine wp_cond_false (S5.cnd (by kernel_rfl)) ?_
   refine wp_exit (then_exit (then_exit (exit_in ?_)))
   refine wp_seq (rk (Ruc64_94 jj1) [.st 1 0 (i6 12)] (Fuc64_93 jj1) Buc64_95 S5 r5 ?_)
   intro _ g6 W6 r6 S6
   exact rt S6 [.agg #[.bool (eb i), .slice (eA i) (en i) (ec i), .int .i64 (ex i), .bool (eb j), .slice (eA j) (en j) (ec j), .int .i64 (ex j)]] (⟨i, j, hi, hj, hq, rfl, r6.first⟩)
theorem great_all (l : List Nat) (A : Option Addr) (c : Nat) (w : World) (hr : kU.C w A l.length l) (hc : l.length ≤ c) (hw : Wf l) :
 Calls Tryz.prog 41 #[.slice A l.length c] w fun e w' => e = .returned (.bool (decide (1024 < (limbs (nv l)).length))) ∧ BL w w' := by
 have hl : l.length ≤ 9223372036854775807 := Kd.C_max hr
 have HR := yk hr
 have HW := yk hw
 clear hr hw
 go_enter Tryz.func41, Tryz.ntmps41
 go_wp2
 go_loopw [3, 8] (fun v3 v8 wr => ∃ t k : Nat, v3 = .int .i64 t ∧ v8 = .int .i64 k ∧ t ≤ k ∧ k ≤ l.length ∧ Aside0 (∃ n, wr = w.drewN n) ∧ Aside0 ((∀ j x, t ≤ j → j < k → l[j]? = some x → x = 0) ∧ (0 < t → ∃ x, l[t - 1]? = some x ∧ x ≠ 0))) (fun _ v8 _ => l.length - (intOf v8).toNat)
 case atStart => exact ⟨0, 0, rfl, rfl, Nat.le_refl _, Nat.zero_le _, ⟨⟨0, rfl⟩⟩, ⟨fun j x _ h _ => by omega, fun h => by omega⟩⟩
 case round =>
  obtain ⟨t, k, rfl, rfl, htk, hk, HWR, HG⟩ := hrel
  obtain ⟨nw, rfl⟩ := HWR.out
  clear HWR
  by_cases hlt : k < l.length
  · obtain ⟨ad, x, rfl, hx0, hcell⟩ := at_word HR.out rfl k hlt
    have hx := yk hx0
    clear hx0
    by_cases hz : x = 0
    · subst hz
      go_wp2
      repeat (go_quiet (fail); try go_wp2)
      go_roundw
      case rel =>
       refine ⟨t, k + 1, rfl, by go_num, by omega, by omega, ⟨⟨_, rfl⟩⟩, ⟨fun j y h1 h2 hy => ?_, HG.out.2⟩⟩
       by_cases hjk : j = k
       · subst hjk
         have := hx.out
         rw [hy] at this
         exact Option.some.inj this
       · exact HG.out.1 j y h1 (by omega) hy
      case measure => simp [intOf]; omega
    · have hxz : ((x : Int) != 0) = true := by simp; exact hz
      have HZ := yk hz
      clear hz
      go_wp2
      repeat (go_quiet (fail); try go_wp2)
      go_roundw
      case rel => exact ⟨k + 1, k + 1, by go_num, by go_num, Nat.le_refl _, by omega, ⟨⟨_, rfl⟩⟩, ⟨fun j y h1 h2 hy => by omega, fun _ => ⟨x, hx.out, HZ.out⟩⟩⟩
      case measure => simp [intOf]; omega
  · obtain rfl : k = l.length := by omega
    have HK := yk (show (limbs (nv l)).length = t by
     rw [limbs_take HW.out htk (fun j x h1 h2 => by
      by_cases hj : j < l.length
      · exact HG.out.1 j x h1 hj h2
      · rw [List.getElem?_eq_none (by omega)] at h2; cases h2) HG.out.2, List.length_take]; omega)
    have HD := yk (show decide ((1024 : Int) < (t : Int)) = decide (1024 < t) by
     by_cases h : 1024 < t
     · rw [decide_eq_true h, decide_eq_true (by omega)]
     · rw [decide_eq_false h, decide_eq_false (by omega)])
    go_wp2
    go_ret
    exact ⟨by rw [HK.out, ← HD.out]; rfl, pw_below_drewN yr _⟩
def Fud20_0 := [dg 0, U, U, U, U, U, U, U, U]
def Fud20_1 := fs Fud20_0 [(1, ps 0 0), (2, ps 1 0)]
def Bud20_2 := [bb 25 (d3 0), bb 28 o6]
def Rud20_3 : Rg := ⟨2, 3, 0, Fud20_0, Bud20_2, [pa 0 0, pa 1 0], []⟩
def Fud20_4 := fs Fud20_1 [(3, ps 2 0), (4, dg 0), (5, dg 3)]
def Bud20_5 := [bb 25 (d3 0), bb 28 o6, bb 25 o3]
def Rud20_6 : Rg := ⟨3, 3, 2, Fud20_1, Bud20_5, [pl (dg 0) 0 0 0, pc (dg 3) 0 44 [dg 0] 3, pa 2 0], [1]⟩
def Bud20_7 := [bb 25 (d3 0), bb 28 o6, bb 25 (d3 3)]
def Fud20_8 := fs Fud20_4 [(6, dg 3), (7, dg 3), (8, ag [vb 3, vs 4, vi 5, vb 3, vs 4, vi 5])]
def Rud20_9 : Rg := ⟨3, 6, 3, Fud20_4, Bud20_7, [pl (dg 3) 0 2 0, pl (dg 3) 0 2 0, pv (ag [vb 3, vs 4, vi 5, vb 3, vs 4, vi 5]) 0], []⟩
def Bud20_10 := [bb 25 (d3 0), bb 28 [vb 3, vs 4, vi 5, vb 3, vs 4, vi 5], bb 25 (d3 3)]
theorem dpoint_q {v : Value} {a : Rat} {N : Nat} {w : World} (h : CQ w v a N) (hN : N ≤ 67108864) (hT : TB w) :
 Calls Tryz.prog 20 #[v] w fun en w' => ∃ v', en = .returned v' ∧ PI w' w.heap.size v' a a N ∧ BL w w' := by
 obtain ⟨b0, A0, n0, c0, x0, rfl⟩ := h.ex
 refine fn_enter (u := 64) (fn := Tryz.f20) Tryz.func20 rfl Fud20_0 [.bool b0, .slice A0 n0 c0, .int .i64 x0] (by kernel_rfl) rfl (fun a0 S0 r0 => ?_)
 refine wp_seq (rk Rud20_3 [] Fud20_1 Bud20_2 S0 r0 ?_)
 intro _ _ _ r1 S1
 refine wp_seq (rk Rud20_6 [.st 2 0 (d3 3)] Fud20_4 Bud20_7 S1 r1 ?_)
 intro _ _ r2 _
 refine (one_d (h.below r2.first) hN).mono ?_
 rintro _ V1 ⟨v, rfl, h1, k1⟩
 obtain ⟨b1, A1, n1, c1, x1, rfl⟩ := h1.ex
 replace h1 := h1.lower r2.fs
 refine ⟨[.bool b1, .slice A1 n1 c1, .int .i64 x1], rfl, rfl, rfl, k1, ?_⟩
 intro _ _ _ r3 S3
 refine wp_seq (rk Rud20_9 [.st 1 0 [vb 3, vs 4, vi 5, vb 3, vs 4, vi 5]] Fud20_8 Bud20_10 S3 r3 ?_)
 intro _ _ _ r4 S4
 exact rt S4 [.agg #[.bool b1, .slice A1 n1 c1, .int .i64 x1, .bool b1, .slice A1 n1 c1, .int .i64 x1]] (⟨_, rfl, .mk (h1.lat (r4.at_ 0 _ rfl)) (h1.lat (r4.at_ 0 _ rfl)), r4.first⟩)
def Fud77_0 := [ig 0, U, U, U, U, U, U, U, U, U]
def Fud77_1 := fs Fud77_0 [(1, ps 0 0), (2, ps 1 0)]
def Bud77_2 := [bb 28 (i6 0), bb 28 o6]
def Rud77_3 : Rg := ⟨2, 6, 0, Fud77_0, Bud77_2, [pa 0 0, pa 1 0], []⟩
def Fud77_4 := fs Fud77_1 [(3, ps 0 0), (4, dg 0), (5, dg 6), (6, ps 0 3), (7, dg 3), (8, dg 9), (9, ig 6)]
def Rud77_5 : Rg := ⟨7, 6, 2, Fud77_1, Bud77_2, [pv (ps 0 0) 0, pl (dg 0) 0 0 0, pc (dg 6) 0 44 [dg 0] 3, pv (ps 0 3) 0, pl (dg 3) 0 0 3, pc (dg 9) 1 44 [dg 3] 3, pv (ig 6) 2], [2, 5]⟩
def Bud77_6 := [bb 28 (i6 0), bb 28 (i6 6)]
theorem done_i {v : Value} {a b : Rat} {N : Nat} {w : World} (h : CI w v a b N) (hN : N ≤ 67108864) (hT : TB w) :
 Calls Tryz.prog 77 #[v] w fun en w' => ∃ v', en = .returned v' ∧ PI w' w.heap.size v' a b N ∧ BL w w' := by
 obtain ⟨b0, A0, n0, c0, x0, d0, B0, m0, e0, y0, rfl⟩ := h.ex
 refine fn_enter (u := 64) (fn := Tryz.f77) Tryz.func77 rfl Fud77_0 [.bool b0, .slice A0 n0 c0, .int .i64 x0, .bool d0, .slice B0 m0 e0, .int .i64 y0] (by kernel_rfl) rfl (fun a0 S0 r0 => ?_)
 refine wp_seq (rk Rud77_3 [] Fud77_1 Bud77_2 S0 r0 ?_)
 intro _ _ _ r1 S1
 refine wp_seq (rk Rud77_5 [.st 1 0 (i6 6)] Fud77_4 Bud77_6 S1 r1 ?_)
 intro _ _ r2 _
 refine (one_d (h.below r2.first).lo hN).mono ?_
 rintro _ V1 ⟨v, rfl, h1, k1⟩
 obtain ⟨b1, A1, n1, c1, x1, rfl⟩ := h1.ex
 replace h1 := h1.lower r2.fs
 refine ⟨[.bool b1, .slice A1 n1 c1, .int .i64 x1], rfl, rfl, rfl, k1, ?_⟩
 intro _ _ r3 _
 refine (one_d (h.below r3.first).hi hN).mono ?_
 rintro _ V2 ⟨v, rfl, h2, k2⟩
 obtain ⟨b2, A2, n2, c2, x2, rfl⟩ := h2.ex
 replace h2 := h2.lower r3.fs
 refine ⟨[.bool b2, .slice A2 n2 c2, .int .i64 x2], rfl, rfl, rfl, k2, ?_⟩
 intro _ _ _ r4 S4
 exact rt S4 [.agg #[.bool b1, .slice A1 n1 c1, .int .i64 x1, .bool b2, .slice A2 n2 c2, .int .i64 x2]] (⟨_, rfl, .mk (h1.lat (r4.at_ 0 _ rfl)) (h2.lat (r4.at_ 1 _ rfl)), r4.first⟩)
def Fud51_0 := [ig 0, U, U, U, U, U, U, U, U, U]
def Fud51_1 := fs Fud51_0 [(1, ps 0 0), (2, ps 1 0)]
def Bud51_2 := [bb 28 (i6 0), bb 28 o6]
def Rud51_3 : Rg := ⟨2, 6, 0, Fud51_0, Bud51_2, [pa 0 0, pa 1 0], []⟩
def Fud51_4 := fs Fud51_1 [(3, ps 0 3), (4, dg 3), (5, dg 6), (6, ps 0 0), (7, dg 0), (8, dg 9), (9, ig 6)]
def Rud51_5 : Rg := ⟨7, 6, 2, Fud51_1, Bud51_2, [pv (ps 0 3) 0, pl (dg 3) 0 0 3, pc (dg 6) 0 93 [dg 3] 3, pv (ps 0 0) 0, pl (dg 0) 0 0 0, pc (dg 9) 1 93 [dg 0] 3, pv (ig 6) 2], [2, 5]⟩
def Bud51_6 := [bb 28 (i6 0), bb 28 (i6 6)]
def Fud63_0 := [ig 0, vi 6, U, U, U, U, U, U, U, U, U, U, U, U]
def Fud63_1 := fs Fud63_0 [(2, ps 0 0), (4, ps 1 0)]
def Bud63_2 := [bb 28 (i6 0), bb 28 o6]
def Rud63_3 : Rg := ⟨2, 7, 0, Fud63_0, Bud63_2, [pa 0 0, pa 1 0], []⟩
def Fud63_4 := fs Fud63_1 [(5, ps 0 0), (6, dg 0), (7, vi 6), (8, dg 7), (9, ps 0 3), (10, dg 3), (11, vi 6), (12, dg 10), (13, ig 7)]
def Rud63_5 : Rg := ⟨9, 7, 2, Fud63_1, Bud63_2, [pv (ps 0 0) 0, pl (dg 0) 0 0 0, pv (vi 6) 0, pc (dg 7) 0 108 [dg 0, vi 6, lb false] 3, pv (ps 0 3) 0, pl (dg 3) 0 0 3, pv (vi 6) 0, pc (dg 10) 1 108 [dg 3, vi 6, lb true] 3, pv (ig 7) 2], [3, 7]⟩
def Bud63_6 := [bb 28 (i6 0), bb 28 (i6 7)]
theorem dtrim_i {v : Value} {a b : Rat} {N p : Nat} {w : World} (h : CI w v a b N) (hN : N ≤ 67108864) (hp : 1 ≤ p) (hp2 : p ≤ 67108864) (hT : TB w) :
 Calls Tryz.prog 63 #[v, .int .i64 (p : Int)] w fun en w' => ∃ v' l u, en = .returned v' ∧ PI w' w.heap.size v' l u (N + 1) ∧ CutOf false a l (ep p) ∧ CutOf true b u (ep p) ∧ Short p l ∧ Short p u ∧ BL w w' := by
 obtain ⟨b0, A0, n0, c0, x0, d0, B0, m0, e0, y0, rfl⟩ := h.ex
 refine fn_enter (u := 64) (fn := Tryz.f63) Tryz.func63 rfl Fud63_0 [.bool b0, .slice A0 n0 c0, .int .i64 x0, .bool d0, .slice B0 m0 e0, .int .i64 y0, .int .i64 (p : Int)] (by kernel_rfl) rfl (fun a0 S0 r0 => ?_)
 refine wp_seq (rk Rud63_3 [] Fud63_1 Bud63_2 S0 r0 ?_)
 intro _ _ _ r1 S1
 refine wp_seq (rk Rud63_5 [.st 1 0 (i6 7)] Fud63_4 Bud63_6 S1 r1 ?_)
 intro _ _ r2 _
 refine (dtrim_q (h.below r2.first).lo hN hp hp2 (tb hT r2)).mono ?_
 rintro _ V1 ⟨v, y1, rfl, h1, e1, s1, k1⟩
 obtain ⟨b1, A1, n1, c1, x1, rfl⟩ := h1.ex
 replace h1 := h1.lower r2.fs
 refine ⟨[.bool b1, .slice A1 n1 c1, .int .i64 x1], rfl, rfl, rfl, k1, ?_⟩
 intro _ _ r3 _
 refine (dtrim_q (h.below r3.first).hi hN hp hp2 (tb hT r3)).mono ?_
 rintro _ V2 ⟨v, y2, rfl, h2, e2, s2, k2⟩
 obtain ⟨b2, A2, n2, c2, x2, rfl⟩ := h2.ex
 replace h2 := h2.lower r3.fs
 refine ⟨[.bool b2, .slice A2 n2 c2, .int .i64 x2], rfl, rfl, rfl, k2, ?_⟩
 intro _ _ _ r4 S4
 exact rt S4 [.agg #[.bool b1, .slice A1 n1 c1, .int .i64 x1, .bool b2, .slice A2 n2 c2, .int .i64 x2]] (⟨_, _, _, rfl, .mk (h1.lat (r4.at_ 0 _ rfl)) (h2.lat (r4.at_ 1 _ rfl)), e1, e2, s1, s2, r4.first⟩)
def Fud50_0 := [ig 0, ig 6, vi 12, U, U, U, U, U, U, U, U, U, U, U, U, U, U, U, U, U]
def Fud50_1 := fs Fud50_0 [(3, ps 0 0), (4, ps 1 0), (6, ps 2 0)]
def Bud50_2 := [bb 28 (i6 0), bb 28 (i6 6), bb 28 o6]
def Rud50_3 : Rg := ⟨3, 13, 0, Fud50_0, Bud50_2, [pa 0 0, pa 1 0, pa 2 0], []⟩
def Fud50_4 := fs Fud50_1 [(7, ps 0 0), (8, dg 0), (9, ps 1 0), (10, dg 6), (11, dg 13), (12, ps 0 3), (13, dg 3), (14, ps 1 3), (15, dg 9), (16, dg 16), (17, ig 13), (18, vi 12), (19, ig 19)]
def Rud50_5 : Rg := ⟨13, 13, 3, Fud50_1, Bud50_2, [pv (ps 0 0) 0, pl (dg 0) 0 0 0, pv (ps 1 0) 0, pl (dg 6) 0 1 0, pc (dg 13) 0 27 [dg 0, dg 6] 3, pv (ps 0 3) 0, pl (dg 3) 0 0 3, pv (ps 1 3) 0, pl (dg 9) 0 1 3, pc (dg 16) 1 27 [dg 3, dg 9] 3, pv (ig 13) 2, pv (vi 12) 0, pc (ig 19) 2 63 [ig 13, vi 12] 6], [4, 9, 12]⟩
def Bud50_6 := [bb 28 (i6 0), bb 28 (i6 6), bb 28 (i6 19)]
def Fud24_0 := [ig 0, ig 6, vi 12, U, U, U, U, U, U, U, U, U]
def Fud24_1 := fs Fud24_0 [(3, ps 0 0), (4, ps 1 0), (6, ps 2 0)]
def Bud24_2 := [bb 28 (i6 0), bb 28 (i6 6), bb 28 o6]
def Rud24_3 : Rg := ⟨3, 13, 0, Fud24_0, Bud24_2, [pa 0 0, pa 1 0, pa 2 0], []⟩
def Fud24_4 := fs Fud24_1 [(7, ig 0), (8, ig 6), (9, ig 13), (10, vi 12), (11, ig 19)]
def Rud24_5 : Rg := ⟨5, 13, 3, Fud24_1, Bud24_2, [pl (ig 0) 0 0 0, pl (ig 6) 0 1 0, pc (ig 13) 0 51 [ig 6] 6, pv (vi 12) 0, pc (ig 19) 1 50 [ig 0, ig 13, vi 12] 6], [2, 4]⟩
def Bud24_6 := [bb 28 (i6 0), bb 28 (i6 6), bb 28 (i6 19)]
def Fud31_0 := [ig 0, ig 6, vi 12, U, U, U, U, U, U, U, U, U, U, U, U, U, U, U, U, U, U, U, U, U, U, U, U, U, U, U, U, U, U]
def Fud31_1 := fs Fud31_0 [(3, ps 0 0), (4, ps 1 0), (6, ps 2 0)]
def Bud31_2 := [bb 28 (i6 0), bb 28 (i6 6), bb 28 o6]
def Rud31_3 : Rg := ⟨3, 13, 0, Fud31_0, Bud31_2, [pa 0 0, pa 1 0, pa 2 0], []⟩
def Fud31_4 := fs Fud31_1 [(7, osl (ps 3 0) 4), (8, ps 0 0), (9, dg 0), (10, ps 1 0), (11, dg 6), (12, dg 13), (13, ps 0 0), (14, dg 0), (15, ps 1 3), (16, dg 9), (17, dg 16), (18, ps 0 3), (19, dg 3), (20, ps 1 0), (21, dg 6), (22, dg 19), (23, ps 0 3), (24, dg 3), (25, ps 1 3), (26, dg 9), (27, dg 22), (28, osl (ps 3 0) 4)]
def Bud31_5 := [bb 28 (i6 0), bb 28 (i6 6), bb 28 o6, bb 25 [vb 13, vs 14, vi 15, vb 16, vs 17, vi 18, vb 19, vs 20, vi 21, vb 22, vs 23, vi 24]]
def Rud31_6 : Rg := ⟨22, 13, 3, Fud31_1, Bud31_5, [pv (ps 0 0) 0, pl (dg 0) 0 0 0, pv (ps 1 0) 0, pl (dg 6) 0 1 0, pc (dg 13) 0 62 [dg 0, dg 6] 3, pv (ps 0 0) 0, pl (dg 0) 0 0 0, pv (ps 1 3) 0, pl (dg 9) 0 1 3, pc (dg 16) 1 62 [dg 0, dg 9] 3, pv (ps 0 3) 0, pl (dg 3) 0 0 3, pv (ps 1 0) 0, pl (dg 6) 0 1 0, pc (dg 19) 2 62 [dg 3, dg 6] 3, pv (ps 0 3) 0, pl (dg 3) 0 0 3, pv (ps 1 3) 0, pl (dg 9) 0 1 3, pc (dg 22) 3 62 [dg 3, dg 9] 3, ⟨osl (ps 3 0) 4, 4, [3], .al 3, osl (ps 3 0) 4⟩, ⟨osl (ps 3 0) 4, 4, [3], .val, osl (ps 3 0) 4⟩], [4, 9, 14, 19]⟩
def Fud31_7 := fs Fud31_4 [(29, osl (ps 3 0) 4), (30, ig 25), (31, vi 12), (32, ig 31)]
def Rud31_8 : Rg := ⟨4, 25, 4, Fud31_4, Bud31_5, [pv (osl (ps 3 0) 4) 0, ⟨ig 25, 0, [], .cl 0 64 [osl (ps 3 0) 4] 6 [3], ig 25⟩, pv (vi 12) 0, pc (ig 31) 1 63 [ig 25, vi 12] 6], [1, 3]⟩
def Bud31_9 := [bb 28 (i6 0), bb 28 (i6 6), bb 28 (i6 31), bb 25 [vb 13, vs 14, vi 15, vb 16, vs 17, vi 18, vb 19, vs 20, vi 21, vb 22, vs 23, vi 24]]
theorem dtimes_i {u v : Value} {a b c d : Rat} {N M p : Nat} {w : World} (h : CI w u a b N) (h' : CI w v c d M) (hN : N + M ≤ 16777215) (hp : 1 ≤ p) (hp2 : p ≤ 67108864) (hT : TB w) :
 Calls Tryz.prog 31 #[u, v, .int .i64 (p : Int)] w fun en w' => ∃ v' l u, en = .returned v' ∧ PI w' w.heap.size v' l u (N + M + 1) ∧ (∃ x y, Four (mul4 a b c d) x y ∧ CutOf false x l (ep p) ∧ CutOf true y u (ep p)) ∧ Short p l ∧ Short p u ∧ BL w w' := by
 obtain ⟨b0, A0, n0, c0, x0, d0, B0, m0, e0, y0, rfl⟩ := h.ex
 obtain ⟨b9, A9, n9, c9, x9, d9, B9, m9, e9, y9, rfl⟩ := h'.ex
 refine fn_enter (u := 64) (fn := Tryz.f31) Tryz.func31 rfl Fud31_0 [.bool b0, .slice A0 n0 c0, .int .i64 x0, .bool d0, .slice B0 m0 e0, .int .i64 y0, .bool b9, .slice A9 n9 c9, .int .i64 x9, .bool d9, .slice B9 m9 e9, .int .i64 y9, .int .i64 (p : Int)] (by kernel_rfl) rfl (fun a0 S0 r0 => ?_)
 refine wp_seq (rk Rud31_3 [] Fud31_1 Bud31_2 S0 r0 ?_)
 intro _ _ _ r1 S1
 refine wp_seq (rk Rud31_6 [] Fud31_4 Bud31_5 S1 r1 ?_)
 intro _ _ r2 _
 refine (dtimes_q (h.below r2.first).lo (h'.below r2.first).lo (by omega) (by omega) (tb hT r2)).mono ?_
 rintro _ V1 ⟨v, rfl, h1, k1⟩
 obtain ⟨b1, A1, n1, c1, x1, rfl⟩ := h1.ex
 replace h1 := h1.lower r2.fs
 refine ⟨[.bool b1, .slice A1 n1 c1, .int .i64 x1], rfl, rfl, rfl, k1, ?_⟩
 intro _ _ r3 _
 refine (dtimes_q (h.below r3.first).lo (h'.below r3.first).hi (by omega) (by omega) (tb hT r3)).mono ?_
 rintro _ V2 ⟨v, rfl, h2, k2⟩
 obtain ⟨b2, A2, n2, c2, x2, rfl⟩ := h2.ex
 replace h2 := h2.lower r3.fs
 refine ⟨[.bool b2, .slice A2 n2 c2, .int .i64 x2], rfl, rfl, rfl, k2, ?_⟩
 intro _ _ r4 _
 refine (dtimes_q (h.below r4.first).hi (h'.below r4.first).lo (by omega) (by omega) (tb hT r4)).mono ?_
 rintro _ V3 ⟨v, rfl, h3, k3⟩
 obtain ⟨b3, A3, n3, c3, x3, rfl⟩ := h3.ex
 replace h3 := h3.lower r4.fs
 refine ⟨[.bool b3, .slice A3 n3 c3, .int .i64 x3], rfl, rfl, rfl, k3, ?_⟩
 intro _ _ r5 _
 refine (dtimes_q (h.below r5.first).hi (h'.below r5.first).hi (by omega) (by omega) (tb hT r5)).mono ?_
 rintro _ V4 ⟨v, rfl, h4, k4⟩
 obtain ⟨b4, A4, n4, c4, x4, rfl⟩ := h4.ex
 replace h4 := h4.lower r5.fs
 refine ⟨[.bool b4, .slice A4 n4 c4, .int .i64 x4], rfl, rfl, rfl, k4, ?_⟩
 intro _ _ _ r6 S6
 refine wp_seq (rk Rud31_8 [.st 2 0 (i6 31)] Fud31_7 Bud31_9 S6 r6 ?_)
 intro W7 g7 r7 q7
 refine (dspan_q (eb := (fun | 0 => b1 | 1 => b2 | 2 => b3 | _ => b4)) (eA := (fun | 0 => A1 | 1 => A2 | 2 => A3 | _ => A4)) (en := (fun | 0 => n1 | 1 => n2 | 2 => n3 | _ => n4)) (ec := (fun | 0 => c1 | 1 => c2 | 2 => c3 | _ => c4)) (ex := (fun | 0 => x1 | 1 => x2 | 2 => x3 | _ => x4)) (q := mul4 a b c d) (g0 := g7 3) (N := N + M) (q7 3 (by decide) _ rfl) (four_of (h1.lat (r7.at_ 0 _ rfl)).c (h2.lat (r7.at_ 1 _ rfl)).c (h3.lat (r7.at_ 2 _ rfl)).c (h4.lat (r7.at_ 3 _ rfl)).c) (by omega) (tb hT r7)).mono ?_
 rintro _ V5 ⟨i, j, hi, hj, hq, rfl, k5⟩
 refine ⟨[.bool ((fun | 0 => b1 | 1 => b2 | 2 => b3 | _ => b4) i), .slice ((fun | 0 => A1 | 1 => A2 | 2 => A3 | _ => A4) i) ((fun | 0 => n1 | 1 => n2 | 2 => n3 | _ => n4) i) ((fun | 0 => c1 | 1 => c2 | 2 => c3 | _ => c4) i), .int .i64 ((fun | 0 => x1 | 1 => x2 | 2 => x3 | _ => x4) i), .bool ((fun | 0 => b1 | 1 => b2 | 2 => b3 | _ => b4) j), .slice ((fun | 0 => A1 | 1 => A2 | 2 => A3 | _ => A4) j) ((fun | 0 => n1 | 1 => n2 | 2 => n3 | _ => n4) j) ((fun | 0 => c1 | 1 => c2 | 2 => c3 | _ => c4) j), .int .i64 ((fun | 0 => x1 | 1 => x2 | 2 => x3 | _ => x4) j)], rfl, rfl, rfl, k5, ?_⟩
 intro _ _ r8 _
 refine (dtrim_i (a := mul4 a b c d i) (b := mul4 a b c d j) (N := N + M) (PI.mk (four_of (p := fun k => PQ _ w.heap.size (.agg #[.bool ((fun | 0 => b1 | 1 => b2 | 2 => b3 | _ => b4) k), .slice ((fun | 0 => A1 | 1 => A2 | 2 => A3 | _ => A4) k) ((fun | 0 => n1 | 1 => n2 | 2 => n3 | _ => n4) k) ((fun | 0 => c1 | 1 => c2 | 2 => c3 | _ => c4) k), .int .i64 ((fun | 0 => x1 | 1 => x2 | 2 => x3 | _ => x4) k)]) (mul4 a b c d k) (N + M)) (h1.lat (r8.at_ 0 _ rfl)) (h2.lat (r8.at_ 1 _ rfl)) (h3.lat (r8.at_ 2 _ rfl)) (h4.lat (r8.at_ 3 _ rfl)) i hi) (four_of (p := fun k => PQ _ w.heap.size (.agg #[.bool ((fun | 0 => b1 | 1 => b2 | 2 => b3 | _ => b4) k), .slice ((fun | 0 => A1 | 1 => A2 | 2 => A3 | _ => A4) k) ((fun | 0 => n1 | 1 => n2 | 2 => n3 | _ => n4) k) ((fun | 0 => c1 | 1 => c2 | 2 => c3 | _ => c4) k), .int .i64 ((fun | 0 => x1 | 1 => x2 | 2 => x3 | _ => x4) k)]) (mul4 a b c d k) (N + M)) (h1.lat (r8.at_ 0 _ rfl)) (h2.lat (r8.at_ 1 _ rfl)) (h3.lat (r8.at_ 2 _ rfl)) (h4.lat (r8.at_ 3 _ rfl)) j hj)).c (by omega) hp hp2 (tb hT r8)).mono ?_
 rintro _ V6 ⟨v, l6, u6, rfl, h6, el6, eu6, sl6, su6, k6⟩
 obtain ⟨b6, A6, n6, c6, x6, d6, B6, m6, e6, y6, rfl⟩ := h6.ex
 replace h6 := h6.lower r8.fs
 refine ⟨[.bool b6, .slice A6 n6 c6, .int .i64 x6, .bool d6, .slice B6 m6 e6, .int .i64 y6], rfl, rfl, rfl, k6, ?_⟩
 intro _ _ _ r9 S9
 exact rt S9 [.agg #[.bool b6, .slice A6 n6 c6, .int .i64 x6, .bool d6, .slice B6 m6 e6, .int .i64 y6]] (⟨_, _, _, rfl, (h6.lat (r9.at_ 5 _ rfl)), ⟨_, _, ⟨i, j, hi, hj, hq, rfl, rfl⟩, el6, eu6⟩, sl6, su6, r9.first⟩)
theorem great_n {v : Value} {m : Nat} {w : World} (h : AN w v m) :
 Calls Tryz.prog 41 #[v] w fun en w' => en = .returned (.bool (decide (1024 < (limbs m).length))) ∧ BL w w' := by
 obtain ⟨A, n, c, l, rfl, h1, rfl, h3, h4, rfl⟩ := h
 exact great_all l A c w h1 h3 h4
theorem fit_if' {m : Nat} {x : Int} : (if (if (!decide (1024 < (limbs m).length)) = true then decide (x ≥ -32768) else false) = true then decide (x ≤ 32768) else false) = Fit m x := by
 unfold Fit
 by_cases h1 : 1024 < (limbs m).length
 · simp [h1]; omega
 · have h2 : (limbs m).length ≤ 1024 := by omega
   by_cases h3 : x ≥ -32768
   · simp [h1, h2, h3]
   · simp [h1, h2, h3]
def Fud17_0 := [dg 0, U, U, U, U, U, U, U, U, U, U, U, U, U, U, U, U]
def Fud17_1 := fs Fud17_0 [(1, ps 0 0), (2, lb false)]
def Bud17_2 := [bb 25 (d3 0)]
def Rud17_3 : Rg := ⟨2, 3, 0, Fud17_0, Bud17_2, [pa 0 0, pv (lb false) 0], []⟩
def Fud17_4 := fs Fud17_1 [(2, pk (pk (f1 noF (vb 3)) (bo .geq (vi 2) (li (-32768))) (lb false)) (bo .leq (vi 2) (li 32768)) (lb false)), (3, ps 0 1), (4, vs 1), (5, vb 3), (6, f1 noF (vb 3)), (7, f1 noF (vb 3)), (8, gd true (f1 noF (vb 3)) (ps 0 2)), (9, gd true (f1 noF (vb 3)) (vi 2)), (10, gd true (f1 noF (vb 3)) (bo .geq (vi 2) (li (-32768)))), (11, pk (f1 noF (vb 3)) (bo .geq (vi 2) (li (-32768))) (lb false)), (12, pk (f1 noF (vb 3)) (bo .geq (vi 2) (li (-32768))) (lb false)), (13, gd true (pk (f1 noF (vb 3)) (bo .geq (vi 2) (li (-32768))) (lb false)) (ps 0 2)), (14, gd true (pk (f1 noF (vb 3)) (bo .geq (vi 2) (li (-32768))) (lb false)) (vi 2)), (15, gd true (pk (f1 noF (vb 3)) (bo .geq (vi 2) (li (-32768))) (lb false)) (bo .leq (vi 2) (li 32768))), (16, pk (pk (f1 noF (vb 3)) (bo .geq (vi 2) (li (-32768))) (lb false)) (bo .leq (vi 2) (li 32768)) (lb false))]
def Rud17_5 : Rg := ⟨15, 3, 1, Fud17_1, Bud17_2, [pv (ps 0 1) 0, pl (vs 1) 0 0 1, pc (vb 3) 0 41 [vs 1] 1, pv (f1 noF (vb 3)) 1, pv (f1 noF (vb 3)) 1, ⟨ps 0 2, 1, [], .val, gd true (f1 noF (vb 3)) (ps 0 2)⟩, ⟨vi 2, 1, [], .ld 0 2, gd true (f1 noF (vb 3)) (vi 2)⟩, ⟨bo .geq (vi 2) (li (-32768)), 1, [], .val, gd true (f1 noF (vb 3)) (bo .geq (vi 2) (li (-32768)))⟩, ⟨pk (f1 noF (vb 3)) (bo .geq (vi 2) (li (-32768))) (lb false), 1, [], .pk, pk (f1 noF (vb 3)) (bo .geq (vi 2) (li (-32768))) (lb false)⟩, pv (pk (f1 noF (vb 3)) (bo .geq (vi 2) (li (-32768))) (lb false)) 1, ⟨ps 0 2, 1, [], .val, gd true (pk (f1 noF (vb 3)) (bo .geq (vi 2) (li (-32768))) (lb false)) (ps 0 2)⟩, ⟨vi 2, 1, [], .ld 0 2, gd true (pk (f1 noF (vb 3)) (bo .geq (vi 2) (li (-32768))) (lb false)) (vi 2)⟩, ⟨bo .leq (vi 2) (li 32768), 1, [], .val, gd true (pk (f1 noF (vb 3)) (bo .geq (vi 2) (li (-32768))) (lb false)) (bo .leq (vi 2) (li 32768))⟩, ⟨pk (pk (f1 noF (vb 3)) (bo .geq (vi 2) (li (-32768))) (lb false)) (bo .leq (vi 2) (li 32768)) (lb false), 1, [], .pk, pk (pk (f1 noF (vb 3)) (bo .geq (vi 2) (li (-32768))) (lb false)) (bo .leq (vi 2) (li 32768)) (lb false)⟩, pv (pk (pk (f1 noF (vb 3)) (bo .geq (vi 2) (li (-32768))) (lb false)) (bo .leq (vi 2) (li 32768)) (lb false)) 1], [2]⟩
theorem dright_all {v : Value} {s : Bool} {m : Nat} {x : Int} {w : World} (h : ADy w v s m x) :
 Calls Tryz.prog 17 #[v] w fun en w' => en = .returned (.bool (Fit m x)) ∧ BL w w' := by
 obtain ⟨A0, n0, c0, rfl, h⟩ := h
 have h : ADy w (.agg #[.bool s, .slice A0 n0 c0, .int .i64 x]) s m x := ⟨_, _, _, rfl, h⟩
 refine fn_enter (u := 64) (fn := Tryz.f17) Tryz.func17 rfl Fud17_0 [.bool s, .slice A0 n0 c0, .int .i64 x] (by kernel_rfl) rfl (fun a0 S0 r0 => ?_)
 refine wp_seq (rk Rud17_3 [] Fud17_1 Bud17_2 S0 r0 ?_)
 intro _ _ _ r1 S1
 refine wp_seq (rk Rud17_5 [] Fud17_4 Bud17_2 S1 r1 ?_)
 intro _ _ r2 _
 refine (great_n (h.below r2.first).n).mono ?_
 rintro _ V1 ⟨rfl, k1⟩
 refine ⟨[.bool (decide (1024 < (limbs m).length))], rfl, rfl, rfl, k1, ?_⟩
 intro _ _ _ r3 S3
 exact rt S3 [.bool (if if !(decide (1024 < (limbs m).length)) then decide (x ≥ (-32768)) else false then decide (x ≤ 32768) else false)] (⟨by rw [← fit_if']; rfl, r3.first⟩)
theorem dright_q {v : Value} {q : Rat} {N : Nat} {w : World} (h : CQ w v q N) :
 Calls Tryz.prog 17 #[v] w fun en w' => ∃ r : Bool, en = .returned (.bool r) ∧ (r = true ↔ FitQ q) ∧ BL w w' := by
 obtain ⟨z, e, h, rfl, hB⟩ := h
 refine (dright_all h.any).mono ?_
 rintro en w' ⟨rfl, hb⟩
 exact ⟨_, rfl, fitq_iff.symm, hb⟩
def Fud45_0 := [ig 0, U, U, U, U, U, U, U, U, U, U, U, U, U, U, U, U, U, U]
def Fud45_1 := fs Fud45_0 [(1, ps 0 0), (2, lb false)]
def Bud45_2 := [bb 28 (i6 0)]
def Rud45_3 : Rg := ⟨2, 6, 0, Fud45_0, Bud45_2, [pa 0 0, pv (lb false) 0], []⟩
def Fud45_4 := fs Fud45_1 [(2, pk (pk (vb 6) (vb 7) (lb false)) (bo .leq (vi 8) (li 0)) (lb false)), (3, ps 0 0), (4, dg 0), (5, vb 6), (6, vb 6), (7, gd true (vb 6) (ps 0 3)), (8, gd true (vb 6) (dg 3)), (9, gd true (vb 6) (vb 7)), (10, pk (vb 6) (vb 7) (lb false)), (11, pk (vb 6) (vb 7) (lb false)), (12, gd true (pk (vb 6) (vb 7) (lb false)) (ps 0 0)), (13, gd true (pk (vb 6) (vb 7) (lb false)) (dg 0)), (14, gd true (pk (vb 6) (vb 7) (lb false)) (ps 0 3)), (15, gd true (pk (vb 6) (vb 7) (lb false)) (dg 3)), (16, gd true (pk (vb 6) (vb 7) (lb false)) (vi 8)), (17, gd true (pk (vb 6) (vb 7) (lb false)) (bo .leq (vi 8) (li 0))), (18, pk (pk (vb 6) (vb 7) (lb false)) (bo .leq (vi 8) (li 0)) (lb false))]
def Rud45_5 : Rg := ⟨17, 6, 1, Fud45_1, Bud45_2, [pv (ps 0 0) 0, pl (dg 0) 0 0 0, pc (vb 6) 0 17 [dg 0] 1, pv (vb 6) 1, ⟨ps 0 3, 1, [], .val, gd true (vb 6) (ps 0 3)⟩, ⟨dg 3, 1, [], .ld 0 3, gd true (vb 6) (dg 3)⟩, ⟨vb 7, 1, [], .cl 1 17 [dg 3] 1 [], gd true (vb 6) (vb 7)⟩, ⟨pk (vb 6) (vb 7) (lb false), 2, [], .pk, pk (vb 6) (vb 7) (lb false)⟩, pv (pk (vb 6) (vb 7) (lb false)) 2, ⟨ps 0 0, 2, [], .val, gd true (pk (vb 6) (vb 7) (lb false)) (ps 0 0)⟩, ⟨dg 0, 2, [], .ld 0 0, gd true (pk (vb 6) (vb 7) (lb false)) (dg 0)⟩, ⟨ps 0 3, 2, [], .val, gd true (pk (vb 6) (vb 7) (lb false)) (ps 0 3)⟩, ⟨dg 3, 2, [], .ld 0 3, gd true (pk (vb 6) (vb 7) (lb false)) (dg 3)⟩, ⟨vi 8, 2, [], .cl 2 26 [dg 0, dg 3] 1 [], gd true (pk (vb 6) (vb 7) (lb false)) (vi 8)⟩, ⟨bo .leq (vi 8) (li 0), 3, [], .val, gd true (pk (vb 6) (vb 7) (lb false)) (bo .leq (vi 8) (li 0))⟩, ⟨pk (pk (vb 6) (vb 7) (lb false)) (bo .leq (vi 8) (li 0)) (lb false), 3, [], .pk, pk (pk (vb 6) (vb 7) (lb false)) (bo .leq (vi 8) (li 0)) (lb false)⟩, pv (pk (pk (vb 6) (vb 7) (lb false)) (bo .leq (vi 8) (li 0)) (lb false)) 3], [2, 6, 13]⟩
theorem dright_i {v : Value} {a b : Rat} {N : Nat} {w : World} (h : CI w v a b N) (hN : N ≤ 16777215) (hT : TB w) :
 Calls Tryz.prog 45 #[v] w fun en w' => ∃ r : Bool, en = .returned (.bool r) ∧ (r = true ↔ FitQ a ∧ FitQ b ∧ a ≤ b) ∧ BL w w' := by
 obtain ⟨b0, A0, n0, c0, x0, d0, B0, m0, e0, y0, rfl⟩ := h.ex
 refine fn_enter (u := 64) (fn := Tryz.f45) Tryz.func45 rfl Fud45_0 [.bool b0, .slice A0 n0 c0, .int .i64 x0, .bool d0, .slice B0 m0 e0, .int .i64 y0] (by kernel_rfl) rfl (fun a0 S0 r0 => ?_)
 refine wp_seq (rk Rud45_3 [] Fud45_1 Bud45_2 S0 r0 ?_)
 intro _ _ _ r1 S1
 refine wp_seq (rk Rud45_5 [] Fud45_4 Bud45_2 S1 r1 ?_)
 intro _ _ r2 _
 refine (dright_q (h.below r2.first).lo).mono ?_
 rintro _ V1 ⟨ra, rfl, hra, k1⟩
 refine ⟨[.bool ra], rfl, rfl, rfl, k1, ?_⟩
 refine ⟨fun c3 => ?_, fun c3 => ?_⟩
 · replace c3 := yv (b := ra) c3
   intro _ _ r4 _
   refine (dright_q (h.below r4.first).hi).mono ?_
   rintro _ V2 ⟨rb, rfl, hrb, k2⟩
   refine ⟨[.bool rb], rfl, rfl, rfl, k2, ?_⟩
   refine ⟨fun c5 => ?_, fun c5 => ?_⟩
   · replace c5 := yv (b := if ra then rb else false) c5
     intro W6 g6 r6 _
     refine (dorder_q (h.below r6.first).lo (h.below r6.first).hi (by omega) (tb hT r6)).mono ?_
     rintro _ V3 ⟨rfl, k3⟩
     refine ⟨[.int .i64 (cmpQ a b)], rfl, rfl, rfl, k3, ?_⟩
     intro _ _ _ r7 S7
     exact rt S7 [.bool (if if ra then rb else false then decide ((cmpQ a b) ≤ 0) else false)] (⟨_, rfl, by rw [c5, if_pos rfl, cmpQ_le]; exact ⟨fun h => ⟨hra.1 c3, hrb.1 (by rw [c3, if_pos rfl] at c5; exact c5), of_decide_eq_true h⟩, fun h => decide_eq_true h.2.2⟩, r7.first⟩)
   · replace c5 := yn (b := if ra then rb else false) c5
     intro _ g6 W6 r6 S6
     exact rt S6 [.bool (if if ra then rb else false then decide (0 ≤ 0) else false)] (⟨_, rfl, by rw [c5, if_neg (by decide)]; exact ⟨fun h => absurd h (by decide), fun h => by rw [c3, if_pos rfl, hrb.2 h.2.1] at c5; cases c5⟩, r6.first⟩)
 · replace c3 := yn (b := ra) c3
   refine ⟨fun c4 => ?_, fun c4 => ?_⟩
   · replace c4 := yv (b := if ra then false else false) c4
     rw [c3, if_neg (by decide)] at c4; cases c4
   · replace c4 := yn (b := if ra then false else false) c4
     intro _ _ _ r5 S5
     exact rt S5 [.bool (if if ra then false else false then decide (0 ≤ 0) else false)] (⟨_, rfl, by rw [c3]; exact ⟨fun h => absurd h (by decide), fun h => by rw [hra.2 h.1] at c3; cases c3⟩, r5.first⟩)
theorem norm_c {w : World} {v : Value} {m : Nat} (h : CN w v m) (hm : bl m ≤ 4294967296) :
 Calls Tryz.prog 89 #[v] w fun e w' => ∃ v, e = .returned v ∧ PN w' w.heap.size v m ∧ BL w w' := by
 obtain ⟨A, n, c, rfl, h1, rfl, h3⟩ := h
 have hl := len_le (K := 67108864) hm
 have := norm_any (limbs m) A c w h1 h3 (wf_limbs _) (by omega)
 rw [nv_limbs] at this
 exact this.mono (by rintro e w' ⟨v, rfl, h, hb⟩; exact ⟨v, rfl, PL.of_R h, hb⟩)
theorem put_g {e base n c : Nat} {ok : Nat → Prop} {W : World} {g : Nat} {ys : List Nat} (h : kU.R e W base ok (.slice (some ⟨g, 0, none⟩) n c) ys) (k u : Nat) : W.grownBy (W.setCell ⟨g, k, none⟩ (.int .u64 (u : Int))) (some g) := (Kd.R_putg h (k : Int) u).2
theorem dd_step {o : List Nat} {i p s : Nat} (hi : i = 64 * p + s) (hs : s < 64) (hp : p < o.length) (ho : Wf o) (h0 : nv o % 2 ^ (i + 1) = 0) : wd o p + 2 ^ s < 18446744073709551616 ∧ nv (o.set p (wd o p + 2 ^ s)) = nv o + 2 ^ i ∧ (nv o + 2 ^ i) % 2 ^ i = 0 := by
 obtain ⟨c, hc⟩ : ∃ c, nv o = 2 ^ (i + 1) * c := ⟨nv o / 2 ^ (i + 1), by have := Nat.div_add_mod (nv o) (2 ^ (i + 1)); omega⟩
 have e1 : (2 : Nat) ^ (i + 1) = 2 ^ (64 * p) * 2 ^ (s + 1) := by rw [← Nat.pow_add]; congr 1; omega
 have hx : wd o p = 2 ^ (s + 1) * (c % 2 ^ (63 - s)) := by
  rw [wd_eq ho, hc, e1, Nat.mul_assoc, Nat.mul_div_cancel_left _ (Nat.two_pow_pos _)]
  have e2 : (2 : Nat) ^ 64 = 2 ^ (s + 1) * 2 ^ (63 - s) := by rw [← Nat.pow_add]; congr 1; omega
  rw [e2, Nat.mul_mod_mul_left]
 refine ⟨?_, ?_, ?_⟩
 · have h1 : c % 2 ^ (63 - s) + 1 ≤ 2 ^ (63 - s) := Nat.mod_lt _ (Nat.two_pow_pos _)
   have h2 := Nat.mul_le_mul_left (2 ^ (s + 1)) h1
   have e2 : 2 ^ (s + 1) * 2 ^ (63 - s) = 18446744073709551616 := by rw [← Nat.pow_add, show s + 1 + (63 - s) = 64 by omega]
   rw [e2, Nat.mul_add, Nat.mul_one, ← hx] at h2
   have h3 : (2 : Nat) ^ (s + 1) = 2 * 2 ^ s := by rw [Nat.pow_succ, Nat.mul_comm]
   have h4 := Nat.two_pow_pos s
   omega
 · have := nv_set hp (wd o p + 2 ^ s)
   rw [Nat.mul_add] at this
   have e3 : (2 : Nat) ^ (64 * p) * 2 ^ s = 2 ^ i := by rw [← Nat.pow_add, hi]
   omega
 · rw [hc, Nat.pow_succ, Nat.mul_assoc, Nat.mul_add_mod, Nat.mod_self]
theorem dd_half {D b i : Nat} (h : D = b * 2 ^ i) : 0 < i → D / 2 ^ 1 = b * 2 ^ (i - 1) := by
 intro hi
 obtain ⟨j, rfl⟩ : ∃ j, i = j + 1 := ⟨i - 1, by omega⟩
 rw [h, Nat.add_sub_cancel, Nat.pow_succ, ← Nat.mul_assoc, Nat.pow_one, Nat.mul_div_cancel _ (by decide)]
theorem ddiv_any {u v : Value} {a b : Nat} {w : World} (h : CN w u a) (h' : CN w v b) (h0 : 0 < b) (ha : bl a ≤ 1073741824) (hb : bl b ≤ 1073741824) :
 Calls Tryz.prog 139 #[u, v] w fun en w' => ∃ q r, en = .returned (.tuple #[q, r]) ∧ PN w' w.heap.size q (a / b) ∧ PN w' w.heap.size r (a % b) ∧ BL w w' := by
 have QLa := yk (fun (m : World) (hm : BL w m) => len_d (h.below hm) (by omega))
 have QLb := yk (fun (m : World) (hm : BL w m) => len_d (h'.below hm) (by omega))
 have QNa := yk (fun (m : World) (hm : BL w m) => norm_c (h.below hm) (by omega))
 have QSb := yk (fun (m : World) (hm : BL w m) (n : Nat) (hn : n ≤ 4294967296) => shl_d (n : Int) n rfl (h'.below hm) (by omega) hn)
 obtain ⟨A, na, c, rfl⟩ := h.ex
 obtain ⟨B, nb, d, rfl⟩ := h'.ex
 obtain ⟨la, hla⟩ : ∃ la, bl a = la := ⟨_, rfl⟩
 obtain ⟨lb, hlb⟩ : ∃ lb, bl b = lb := ⟨_, rfl⟩
 have HLA := yk hla
 have HLB := yk hlb
 have HB0 := yk h0
 rw [hla] at QLa ha
 rw [hlb] at QLb hb
 clear h h' hla hlb
 by_cases hlt : la < lb
 · have HQ := yk (show a / b = 0 ∧ a % b = a by
    have : a < b := by
     refine Classical.byContradiction fun q => ?_
     have := bl_le_of (show b ≤ a by omega)
     have z1 := HLA.out; have z2 := HLB.out
     omega
    exact ⟨Nat.div_eq_of_lt this, Nat.mod_eq_of_lt this⟩)
   go_enter Tryz.func139, Tryz.ntmps139
   go_wp2_with (first
    | (go_at_call 90; refine (QLb.out _ HB1.out).mono ?_; rintro e w2 ⟨rfl, hb1⟩; have HB2 := yk (below_then HB1.out HB1.out.size hb1); clear hb1)
    | (go_at_call 90; refine (QLa.out w yr).mono ?_; rintro e w1 ⟨rfl, hb1⟩; have HB1 := yk hb1; clear hb1)
    | (go_at_call 89; refine (QNa.out _ HB2.out).mono ?_; rintro e w3 ⟨v3, rfl, h3, hb1⟩; have H3 := yk h3; have HB3 := yk (below_then HB2.out HB2.out.size hb1); clear hb1 h3))
   go_ret2
   exact ⟨_, _, rfl, by rw [HQ.out.1]; unfold PN; rw [limbs_zero]; exact PL.nil _ _, by rw [HQ.out.2]; exact H3.out.lower HB2.out.size, HB3.out⟩
 obtain ⟨n, hn⟩ : ∃ n, la = lb + n := ⟨la - lb, by omega⟩
 have hn1 : (la : Int) - (lb : Int) = (n : Int) := by omega
 have hn2 : n ≤ 1073741824 := by omega
 obtain ⟨N, hN⟩ : ∃ N, N = n / 64 + 1 := ⟨_, rfl⟩
 have hN1 : (n : Int) / 64 + 1 = (N : Int) := by omega
 have hN2 : N ≤ 1073741825 := by omega
 have hNp : 0 < N := by omega
 have HN := yk hN
 have HLN := yk hn
 have QS := yk (fun (m : World) (hm : BL w m) => QSb.out m hm n (by omega))
 clear hN hn hlt QSb
 have HBN := yk (show bl (b * 2 ^ n) ≤ 2147483649 by have := bl_mul (b := 2 ^ n) (show bl b ≤ lb by rw [HLB.out]; exact Nat.le_refl _) (bl_pow_le n); omega)
 have HAB := yk (show a < b * 2 ^ (n + 1) by
  have z1 := bl_lt a
  rw [HLA.out, HLN.out] at z1
  have z2 := bl_le (n := b) (by have := HB0.out; omega)
  rw [HLB.out] at z2
  have z3 := Nat.mul_le_mul_right (2 ^ (n + 1)) z2
  rw [← Nat.pow_add] at z3
  have z4 : 0 < lb := by
   rcases Nat.lt_or_ge 0 lb with q | q
   · exact q
   · have z5 := bl_lt b
     rw [HLB.out, Nat.le_zero.1 q] at z5
     have := HB0.out
     omega
  rw [show lb - 1 + (n + 1) = lb + n by omega] at z3
  omega)
 have HLA2 := yk (show bl a ≤ 1073741824 by rw [HLA.out]; exact ha)
 go_enter Tryz.func139, Tryz.ntmps139
 go_wp2_with (first
  | (go_at_call 90; refine (QLb.out _ HB1.out).mono ?_; rintro e w2 ⟨rfl, hb1⟩; have HB2 := yk (below_then HB1.out HB1.out.size hb1); clear hb1)
  | (go_at_call 90; refine (QLa.out w yr).mono ?_; rintro e w1 ⟨rfl, hb1⟩; have HB1 := yk hb1; clear hb1)
  | ((with_reducible refine gate_dst (N := 25) rfl ?_); go_must (refine Kd.R_make kU (w0 := w) w.heap.size 64 rfl rfl 23 (.tmp 24) (.tmp 24) rfl (N : Int) ?mx ?my Tryz.underlying23 (.int .u64 0) 8 info_word rfl (by decide) (by decide) 0 (ok := fun _ => True) (okp := fun _ => False) ?mz (fun _ h => h.elim) trivial (by omega) ?ml HB2.out HB2.out.size ?_; (case mx => rfl); (case my => rfl); (case mz => rfl); (case ml => omega); intro v_3 w_3 ho hb hg hown; obtain ⟨g, cap, rfl, hg1, hg2, hg3⟩ := Kd.R_form ho (by simp; omega); rw [show (List.replicate ((N : Int)).toNat (0 : Nat)).length = N by simp] at ho ⊢; have HO := yk ho; have HB3 := yk hb; have HG := yk hg1; have HGL := yk (show g < w_3.heap.size by obtain ⟨cs, hcs⟩ := hg3; exact blk_lt hcs); clear ho hb hg hown hg1 hg2 hg3))
  | (go_at_call 89; refine (QNa.out _ HB3.out).mono ?_; rintro e w4 ⟨v4, rfl, h4, hb1⟩; have H8 := yk (h4.lower HGL.out); replace HO := yk (Kd.R_below HO.out hb1); have HB4 := yk (below_then HB3.out HB3.out.size hb1); have HGL4 := yk (Nat.lt_of_lt_of_le HGL.out hb1.size); clear hb1 h4)
  | (go_at_call 53; refine (QS.out _ HB4.out).mono ?_; rintro e w5 ⟨v5, rfl, h5, hb1⟩; have H9 := yk (h5.lower HGL4.out); replace HO := yk (Kd.R_below HO.out hb1); replace H8 := yk (H8.out.below hb1); have HB5 := yk (below_then HB4.out HB4.out.size hb1); clear hb1 h5))
 go_loopw [8, 9, 10] (fun v8 v9 v10 wr => ∃ (k R D : Nat) (o : List Nat), v10 = .int .i64 ((k : Int) - 1) ∧ k ≤ n + 1 ∧ Aside0 (BL w wr) ∧ Aside0 (kU.R 64 wr w.heap.size (fun _ => True) (.slice (some ⟨g, 0, none⟩) N cap) o) ∧ Aside0 (PN wr (g + 1) v8 R) ∧ Aside0 (PN wr (g + 1) v9 D) ∧ Aside0 (o.length = N ∧ Wf o ∧ R < b * 2 ^ k ∧ a = nv o * b + R ∧ nv o % 2 ^ k = 0 ∧ (0 < k → D = b * 2 ^ (k - 1)) ∧ D ≤ b * 2 ^ n)) (fun _ _ v10 _ => (intOf v10 + 1).toNat)
 case atStart => exact ⟨n + 1, a, b * 2 ^ n, _, by go_num, Nat.le_refl _, HB5, HO, H8, H9, ⟨by simp, Wf.replicate _, HAB.out, by rw [show nv (List.replicate ((N : Int)).toNat 0) = 0 from nv_replicate _]; omega, by rw [show nv (List.replicate ((N : Int)).toNat 0) = 0 from nv_replicate _]; exact Nat.zero_mod _, fun _ => rfl, Nat.le_refl _⟩⟩
 case round =>
  obtain ⟨k, R, D, o, rfl, hk, HB6, HO6, H86, H96, HG6⟩ := hrel
  obtain ⟨A8, n8, c8, rfl⟩ := H86.out.ex
  obtain ⟨A9, n9, c9, rfl⟩ := H96.out.ex
  have HRA := yk (show bl R ≤ 4294967296 by have z1 := HLA2.out; have z2 := HG6.out.2.2.2.1; have z3 := bl_le_of (show R ≤ a by rw [z2]; exact Nat.le_add_left _ _); omega)
  have HDA := yk (show bl D ≤ 4294967296 by have z1 := HBN.out; have z3 := bl_le_of HG6.out.2.2.2.2.2.2; omega)
  have HGW := yk (show g < wr.heap.size by
   obtain ⟨g', cap', he, _, _, cs, hc⟩ := Kd.R_form HO6.out (by rw [HG6.out.1]; exact hNp)
   injection he with e1
   injection e1 with e1
   injection e1 with e1
   rw [e1]; exact blk_lt hc)
  by_cases hk0 : k = 0
  · subst hk0
    have HF := yk (show nv o = a / b ∧ R = a % b by
     obtain ⟨_, _, h1, h2, _⟩ := HG6.out
     rw [Nat.pow_zero, Nat.mul_one] at h1
     have z := HB0.out
     rw [h2, Nat.mul_comm, Nat.mul_add_div z, Nat.div_eq_of_lt h1, Nat.add_zero, Nat.mul_add_mod, Nat.mod_eq_of_lt h1]
     exact ⟨rfl, rfl⟩)
    have QN := yk (fun (m : World) (h : kU.C m (some ⟨g, 0, none⟩) N o) (hcap : N ≤ cap) => norm_any o (some ⟨g, 0, none⟩) cap m (by rw [HG6.out.1]; exact h) (by rw [HG6.out.1]; exact hcap) HG6.out.2.1 (by rw [HG6.out.1]; omega))
    rw [HG6.out.1, HF.out.1] at QN
    obtain ⟨-, hcap, hC⟩ := Kd.R_reads' HO6.out
    have QC := yk (QN.out wr (by have z := hC; rw [HG6.out.1] at z; exact z) (by first | exact hcap | (have z := hcap; rw [HG6.out.1] at z; exact z)))
    clear hC hcap QN
    go_wp2_with (go_at_call 89; refine QC.out.mono ?_; rintro e w7 ⟨v7, rfl, ho, hb⟩; have HOO := yk ho; have HBB := yk hb; clear ho hb)
    go_ret2
    exact ⟨_, _, rfl, PL.of_R (Kd.R_lower HOO.out HB6.out.size), by rw [← HF.out.2]; exact (H86.out.below HBB.out).lower (by have := HG.out; omega), below_then HB6.out HB6.out.size HBB.out⟩
  · obtain ⟨i, rfl⟩ : ∃ i, k = i + 1 := ⟨k - 1, by omega⟩
    clear hk0
    have hi : ((i + 1 : Nat) : Int) - 1 = (i : Int) := by omega
    rw [hi]
    have QCm := yk (cmp_d H86.out.c H96.out.c HRA.out HDA.out)
    obtain ⟨cv, hcv⟩ : ∃ cv, cmpN R D = cv := ⟨_, rfl⟩
    rw [hcv] at QCm
    obtain ⟨p, hp⟩ : ∃ p, p = i / 64 := ⟨_, rfl⟩
    obtain ⟨s, hs⟩ : ∃ s, s = i % 64 := ⟨_, rfl⟩
    have hp1 : (i : Int) / 64 = (p : Int) := by omega
    have hs1 : (i : Int) % 64 = (s : Int) := by omega
    have hs63 : s ≤ 63 := by omega
    have hpN : p < N := by have := HN.out; omega
    have HIP := yk (show i = 64 * p + s by omega)
    have HDD := yk (show D = b * 2 ^ i by have := HG6.out.2.2.2.2.2.1 (by omega); rwa [Nat.add_sub_cancel] at this)
    have hi30 : i ≤ 1073741824 := by omega
    clear hp hs
    by_cases hRD : D ≤ R
    · have hcv0 : 0 ≤ cv := by rw [← hcv]; unfold cmpN; rw [if_neg (by omega)]; split <;> omega
      have QSu := yk (fun (m : World) (hm : BL wr m) => sub_d (H86.out.c.below hm) (H96.out.c.below hm) HRA.out hRD)
      obtain ⟨x, hx⟩ : ∃ x, wd o p = x := ⟨_, rfl⟩
      obtain ⟨t1, t2, t3⟩ := dd_step HIP.out (by omega) (by rw [HG6.out.1]; exact hpN) HG6.out.2.1 HG6.out.2.2.2.2.1
      rw [hx] at t1 t2
      obtain ⟨T, hT⟩ : ∃ T, T = 2 ^ s := ⟨_, rfl⟩
      rw [← hT] at t1 t2
      have hT1 : (2 : Int) ^ s = (T : Int) := by rw [hT, Int.natCast_pow]; rfl
      have hT2 : IntKind.u64.wrap (2 ^ s) = (T : Int) := by rw [hT1]; unfold IntKind.wrap; simp [IntKind.bits, IntKind.signed]; omega
      obtain ⟨y, hy⟩ : ∃ y, y = x + T := ⟨_, rfl⟩
      rw [← hy] at t1 t2
      have hy1 : (x : Int) + (T : Int) = (y : Int) := by omega
      have hx64 : x < 18446744073709551616 := by omega
      have hT64 : T < 18446744073709551616 := by omega
      have HT2 := yk t2
      have HT3 := yk t3
      have HX := yk hx
      have HY := yk t1
      have HRD := yk hRD
      clear hcv t2 t3 hT hx hy hRD
      go_wp2_with (first
       | (go_at_call 55; go_must (refine QCm.out.mono ?_; rintro e w7 ⟨rfl, hb1⟩; have HC7 := yk hb1; clear hb1))
       | (go_at_call 56; go_must (refine (QSu.out _ HC7.out).mono ?_; rintro e w8 ⟨v8, rfl, h8, hb1⟩; have HC8 := yk (below_then HC7.out HC7.out.size hb1); have H8 := yk (h8.lower (b' := g + 1) (Nat.le_trans (Nat.succ_le_of_lt HGW.out) HC7.out.size)); have HO8 := yk (Kd.R_below HO6.out HC8.out); obtain ⟨hw1, hw2, hput⟩ := put_word HO8.out hpN; rw [HX.out] at hw1; have HPUT := yk (hput y); have HGR := yk (put_g HO8.out p y); have H98 := yk (H96.out.below HC8.out); clear hb1 h8 hput))
       | (go_at_call 92; go_must (refine (shr_d 1 1 rfl (PN.c (PL.grown H98.out HGR.out (Nat.lt_succ_self g))) HDA.out (by decide)).mono ?_; rintro e w9 ⟨v9, rfl, h9, hb1⟩; have H9 := yk (h9.lower (b' := g + 1) (Nat.le_trans (Nat.succ_le_of_lt HGW.out) (Nat.le_trans HC8.out.size HGR.out.size))); have HC9 := yk hb1; clear hb1 h9)))
      go_roundw
      case rel =>
       refine ⟨i, R - D, D / 2 ^ 1, o.set p y, by go_num, by omega, ⟨below_then ((below_then HB6.out HB6.out.size HC8.out).setCell HG.out _) ((below_then HB6.out HB6.out.size HC8.out).setCell HG.out _).size HC9.out⟩, ⟨Kd.R_below HPUT.out HC9.out⟩, ⟨(PL.grown H8.out HGR.out (Nat.lt_succ_self g)).below HC9.out⟩, H9, ⟨by simp [HG6.out.1], HG6.out.2.1.set HY.out, ?_⟩⟩
       have hDD := HDD.out
       have hRD := HRD.out
       obtain ⟨_, _, g1, g2, g3, _, g5⟩ := HG6.out
       have e1 : b * 2 ^ (i + 1) = b * 2 ^ i + b * 2 ^ i := by rw [Nat.pow_succ, ← Nat.mul_assoc]; omega
       rw [e1] at g1
       refine ⟨by omega, ?_, ?_, dd_half hDD, by omega⟩
       · rw [HT2.out, Nat.add_mul, Nat.mul_comm (2 ^ i) b]; omega
       · rw [HT2.out]; exact HT3.out
      case measure => simp [intOf]
    · have hcv0 : cv = -1 := by rw [← hcv]; unfold cmpN; rw [if_pos (by omega)]
      subst hcv0
      have HRD := yk hRD
      clear hcv hRD
      go_wp2_with (first
       | (go_at_call 55; go_must (refine QCm.out.mono ?_; rintro e w7 ⟨rfl, hb1⟩; have HC7 := yk hb1; have H97 := yk (H96.out.below hb1); clear hb1))
       | (go_at_call 92; go_must (refine (shr_d 1 1 rfl H97.out.c HDA.out (by decide)).mono ?_; rintro e w9 ⟨v9, rfl, h9, hb1⟩; have H9 := yk (h9.lower (b' := g + 1) (Nat.le_trans (Nat.succ_le_of_lt HGW.out) HC7.out.size)); have HC9 := yk (below_then HC7.out HC7.out.size hb1); clear hb1 h9)))
      go_roundw
      case rel =>
       refine ⟨i, R, D / 2 ^ 1, o, by go_num, by omega, ⟨below_then HB6.out HB6.out.size HC9.out⟩, ⟨Kd.R_below HO6.out HC9.out⟩, ⟨H86.out.below HC9.out⟩, H9, ⟨HG6.out.1, HG6.out.2.1, ?_⟩⟩
       have hDD := HDD.out
       have hRD := HRD.out
       obtain ⟨_, _, g1, g2, g3, _, g5⟩ := HG6.out
       refine ⟨by omega, g2, ?_, dd_half hDD, by omega⟩
       have e1 : (2 : Nat) ^ (i + 1) = 2 ^ i * 2 := Nat.pow_succ ..
       rw [e1] at g3
       have := Nat.mod_mul_right_mod (nv o) (2 ^ i) 2
       rw [g3, Nat.zero_mod] at this
       exact this.symm
      case measure => simp [intOf]
theorem ddiv_n {u v : Value} {a b : Nat} {w : World} (h : CN w u a) (h' : CN w v b) (h0 : 0 < b) (ha : bl a ≤ 1073741824) (hb : bl b ≤ 1073741824) (hT : TB w) :
 Calls Tryz.prog 139 #[u, v] w fun en w' => ∃ q r, en = .returned (.tuple #[q, r]) ∧ PN w' w.heap.size q (a / b) ∧ PN w' w.heap.size r (a % b) ∧ BL w w' := by
 exact ddiv_any h h' h0 ha hb
theorem short_bl {p : Nat} {z e : Int} (h : Short p (Dv z e)) : bl (cman z) ≤ p + 1 := by
 obtain ⟨y, f, h1, h2⟩ := h
 rw [(same_form h1).1]
 refine bl_le_iff.2 (Nat.lt_of_le_of_lt (Nat.div_le_self _ _) ?_)
 exact Nat.lt_of_le_of_lt h2 (Nat.pow_lt_pow_right (by decide) (by omega))
theorem dover_k {p a b : Nat} (hp : p ≤ 67108864) (ha : a ≤ p + 1) (hb : b ≤ 67108864) : ∃ k : Nat, IntKind.i64.wrap (IntKind.i64.wrap (IntKind.i64.wrap ((p : Int) + 2) + (b : Int)) - (a : Int)) = (k : Int) ∧ k ≤ p + 2 + b ∧ p + 2 + b = a + k := by
 have e : IntKind.i64.wrap (IntKind.i64.wrap (IntKind.i64.wrap ((p : Int) + 2) + (b : Int)) - (a : Int)) = (p : Int) + 2 + b - a := by
  rw [i64_id (x := (p : Int) + 2) (by omega) (by omega), i64_id (x := (p : Int) + 2 + b) (by omega) (by omega), i64_id (by omega) (by omega)]
 rw [e]
 exact ⟨p + 2 + b - a, by omega, by omega, by omega⟩
theorem PDy.cast_z {w : World} {b : Nat} {v : Value} {z y e : Int} (h : PDy w b v z e) (hz : y = z) : PDy w b v y e := hz ▸ h
theorem st_odd {q : Nat} {d : Bool} (h : d = true) : ((2 * q + (if d = true then 1 else 0) : Nat) : Int) = sgn false (q * 2 ^ 1 + 1) := by
 subst h; rw [if_pos rfl]; show ((2 * q + 1 : Nat) : Int) = ((q * 2 ^ 1 + 1 : Nat) : Int); omega
theorem st_even {q : Nat} {d : Bool} (h : d = false) : ((2 * q + (if d = true then 1 else 0) : Nat) : Int) = sgn false (q * 2 ^ 1) := by
 subst h; rw [if_neg (by decide)]; show ((2 * q + 0 : Nat) : Int) = ((q * 2 ^ 1 : Nat) : Int); omega
theorem pick_t {P : Prop} [Decidable P] : (if decide P = true then true else false) = decide P := by
 by_cases h : P <;> simp [h]
def Fue128_0 := [vs 0, vi 1, U, U, U, U, U, U, U, U, U, U, U, U, U, U, U]
def Fue128_1 := fs Fue128_0 [(4, lz), (5, lb false)]
def Rue128_2 : Rg := ⟨2, 2, 0, Fue128_0, [], [pv (lz) 0, pv (lb false) 0], []⟩
def Fue128_3 := fs Fue128_1 [(6, vi 1), (7, bo .geq (vi 1) (li 0))]
def Rue128_4 : Rg := ⟨2, 2, 0, Fue128_1, [], [pv (vi 1) 0, pv (bo .geq (vi 1) (li 0)) 0], []⟩
def Fue128_5 := fs Fue128_3 [(4, vs 2), (8, vs 0), (9, vi 1), (10, vs 2)]
def Rue128_6 : Rg := ⟨5, 2, 0, Fue128_3, [], [pv (vs 0) 0, pv (vi 1) 0, pc (vs 2) 0 53 [vs 0, vi 1] 1, pv (vs 2) 1, pv (lb false) 1], [2]⟩
theorem dleft_n {v : Value} {m : Nat} {w : World} (n : Int) (k : Nat) (hk : n = k) (h : CN w v m) (hm : bl m ≤ 4294967296) (hn : k ≤ 4294967296) (hT : TB w) :
 Calls Tryz.prog 128 #[v, .int .i64 n] w fun e w' => ∃ v, e = .returned (.tuple #[v, .bool false]) ∧ PN w' w.heap.size v (m * 2 ^ k) ∧ BL w w' := by
 obtain ⟨A0, n0, c0, rfl⟩ := h.ex
 refine fn_enter (u := 64) (fn := Tryz.f128) Tryz.func128 rfl Fue128_0 [.slice A0 n0 c0, .int .i64 n] (by kernel_rfl) rfl (fun a0 S0 r0 => ?_)
 refine wp_seq (rk Rue128_2 [] Fue128_1 [] S0 r0 ?_)
 intro _ _ _ r1 S1
 refine wp_seq ?_
 refine wp_seq (rk Rue128_4 [] Fue128_3 [] S1 r1 ?_)
 intro _ _ _ r2 S2
 refine wp_cond_split (t := decide (n ≥ 0)) (S2.cnd (by kernel_rfl)) (fun q1 => ?_) (fun q1 => ?_)
 · refine wp_seq (rk Rue128_6 [] Fue128_5 [] S2 r2 ?_)
   intro _ _ r3 _
   refine (shl_d _ k hk (h.below r3.first) hm hn).mono ?_
   rintro _ V1 ⟨v, rfl, h1, k1⟩
   obtain ⟨A1, n1, c1, rfl⟩ := h1.ex
   replace h1 := h1.lower r3.fs
   refine ⟨[.slice A1 n1 c1], rfl, rfl, rfl, k1, ?_⟩
   intro _ _ _ r4 S4
   exact wp_ret (then_ret (ret_ok S4 [.slice A1 n1 c1, .bool false] (by kernel_rfl) (⟨_, rfl, (h1.lat (r4.at_ 0 _ rfl)), r4.first⟩)))
 · exact absurd (of_decide_eq_false q1) (by omega)
def Fuer128_0 := [vs 0, vi 1, U, U, U, U, U, U, U, U, U, U, U, U, U, U, U]
def Fuer128_1 := fs Fuer128_0 [(4, lz), (5, lb false)]
def Ruer128_2 : Rg := ⟨2, 2, 0, Fuer128_0, [], [pv (lz) 0, pv (lb false) 0], []⟩
def Fuer128_3 := fs Fuer128_1 [(6, vi 1), (7, bo .geq (vi 1) (li 0))]
def Ruer128_4 : Rg := ⟨2, 2, 0, Fuer128_1, [], [pv (vi 1) 0, pv (bo .geq (vi 1) (li 0)) 0], []⟩
def Fuer128_5 := fs Fuer128_3 [(4, vs 2), (5, vb 3), (11, vs 0), (12, vi 1), (13, f1 ngF (vi 1)), (14, tu [vs 2, vb 3]), (15, vs 2), (16, vb 3)]
def Ruer128_6 : Rg := ⟨8, 2, 0, Fuer128_3, [], [pv (vs 0) 0, pv (vi 1) 0, pv (f1 ngF (vi 1)) 0, pc (tu [vs 2, vb 3]) 0 92 [vs 0, f1 ngF (vi 1)] 2, pv (vs 2) 1, pv (vb 3) 1, pv (vs 2) 1, pv (vb 3) 1], [3]⟩
theorem dleft_r {v : Value} {m : Nat} {w : World} (n : Int) (k : Nat) (hk : n = -(k : Int)) (hk0 : 0 < k) (h : CN w v m) (hm : bl m ≤ 4294967296) (hn : k ≤ 4294967296) (hT : TB w) :
 Calls Tryz.prog 128 #[v, .int .i64 n] w fun e w' => ∃ v, e = .returned (.tuple #[v, .bool (m % 2 ^ k != 0)]) ∧ PN w' w.heap.size v (m / 2 ^ k) ∧ BL w w' := by
 obtain ⟨A0, n0, c0, rfl⟩ := h.ex
 refine fn_enter (u := 64) (fn := Tryz.f128) Tryz.func128 rfl Fuer128_0 [.slice A0 n0 c0, .int .i64 n] (by kernel_rfl) rfl (fun a0 S0 r0 => ?_)
 refine wp_seq (rk Ruer128_2 [] Fuer128_1 [] S0 r0 ?_)
 intro _ _ _ r1 S1
 refine wp_seq ?_
 refine wp_seq (rk Ruer128_4 [] Fuer128_3 [] S1 r1 ?_)
 intro _ _ _ r2 S2
 refine wp_cond_split (t := decide (n ≥ 0)) (S2.cnd (by kernel_rfl)) (fun q1 => ?_) (fun q1 => ?_)
 · exact absurd (of_decide_eq_true q1) (by omega)
 · refine wp_skip ?_
   refine wp_seq (rk Ruer128_6 [] Fuer128_5 [] S2 r2 ?_)
   intro W3 _ r3 _
   show Calls Tryz.prog 92 #[.slice A0 n0 c0, .int .i64 (IntKind.i64.wrap (0 - n))] W3 _
   refine (shr_d _ k (by rw [hk, i64_id (by omega) (by omega)]; omega) (h.below r3.first) hm hn).mono ?_
   rintro _ V1 ⟨v, rfl, h2, k1⟩
   obtain ⟨A1, n1, c1, rfl⟩ := h2.ex
   replace h2 := h2.lower r3.fs
   refine ⟨[.slice A1 n1 c1, .bool (m % 2 ^ k != 0)], rfl, rfl, rfl, k1, ?_⟩
   intro _ _ _ r4 S4
   exact rt S4 [.slice A1 n1 c1, .bool (m % 2 ^ k != 0)] (⟨_, rfl, (h2.lat (r4.at_ 0 _ rfl)), r4.first⟩)
def Fue115_0 := [dg 0, dg 3, vi 6, vb 7, U, U, U, U, U, U, U, U, U, U, U, U, U, U, U, U, U, U, U, U, U, U, U, U, U, U, U, U, U, U, U, U, U, U, U, U, U, U, U, U, U, U, U, U, U, U, U, U, U, U, U, U, U, U, U, U, U, U, U, U, U, U, U, U, U, U, U, U, U, U, U, U, U, U, U]
def Fue115_1 := fs Fue115_0 [(4, ps 0 0), (5, ps 1 0), (8, ps 2 0)]
def Bue115_2 := [bb 25 (d3 0), bb 25 (d3 3), bb 25 o3]
def Rue115_3 : Rg := ⟨3, 8, 0, Fue115_0, Bue115_2, [pa 0 0, pa 1 0, pa 2 0], []⟩
def Fue115_4 := fs Fue115_1 [(9, ps 3 0), (10, ps 4 0), (17, dg 0), (18, dg 8), (19, dg 3), (20, dg 11)]
def Bue115_5 := [bb 25 (d3 0), bb 25 (d3 3), bb 25 o3, bb 25 o3, bb 25 o3]
def Rue115_6 : Rg := ⟨6, 8, 3, Fue115_1, Bue115_5, [pl (dg 0) 0 0 0, pc (dg 8) 0 44 [dg 0] 3, pl (dg 3) 0 1 0, pc (dg 11) 1 44 [dg 3] 3, pa 3 0, pa 4 0], [1, 3]⟩
def Bue115_7 := [bb 25 (d3 0), bb 25 (d3 3), bb 25 o3, bb 25 (d3 8), bb 25 (d3 11)]
def Fue115_8 := fs Fue115_4 [(21, ps 3 1), (22, vs 9), (23, f1 lnF (vs 9)), (24, bo .eql (f1 lnF (vs 9)) (li 0))]
def Rue115_9 : Rg := ⟨4, 14, 5, Fue115_4, Bue115_7, [pv (ps 3 1) 0, pl (vs 9) 0 3 1, pv (f1 lnF (vs 9)) 0, pv (bo .eql (f1 lnF (vs 9)) (li 0)) 0], []⟩
def Fue115_10 := fs Fue115_8 [(11, bo .sub (bo .add (bo .add (vi 6) (li 2)) (vi 14)) (vi 15)), (26, vi 6), (27, bo .add (vi 6) (li 2)), (28, ps 4 1), (29, vs 12), (30, vi 14), (31, bo .add (bo .add (vi 6) (li 2)) (vi 14)), (32, ps 3 1), (33, vs 9), (34, vi 15), (35, bo .sub (bo .add (bo .add (vi 6) (li 2)) (vi 14)) (vi 15))]
def Rue115_11 : Rg := ⟨11, 14, 5, Fue115_8, Bue115_7, [pv (vi 6) 0, pv (bo .add (vi 6) (li 2)) 0, pv (ps 4 1) 0, pl (vs 12) 0 4 1, pc (vi 14) 0 90 [vs 12] 1, pv (bo .add (bo .add (vi 6) (li 2)) (vi 14)) 1, pv (ps 3 1) 0, pl (vs 9) 0 3 1, pc (vi 15) 1 90 [vs 9] 1, pv (bo .sub (bo .add (bo .add (vi 6) (li 2)) (vi 14)) (vi 15)) 2, pv (bo .sub (bo .add (bo .add (vi 6) (li 2)) (vi 14)) (vi 15)) 2], [4, 8]⟩
def Fue115_12 := fs Fue115_10 [(12, vs 16), (13, vb 17), (36, tu [vs 16, vb 17]), (37, ps 3 1), (38, vs 9), (39, bo .sub (bo .add (bo .add (vi 6) (li 2)) (vi 14)) (vi 15)), (40, tu [vs 16, vb 17]), (41, vs 16), (42, vb 17)]
def Rue115_13 : Rg := ⟨9, 16, 5, Fue115_10, Bue115_7, [pv (ps 3 1) 0, pl (vs 9) 0 3 1, pv (bo .sub (bo .add (bo .add (vi 6) (li 2)) (vi 14)) (vi 15)) 0, pc (tu [vs 16, vb 17]) 0 128 [vs 9, bo .sub (bo .add (bo .add (vi 6) (li 2)) (vi 14)) (vi 15)] 2, pv (tu [vs 16, vb 17]) 1, pv (vs 16) 1, pv (vb 17) 1, pv (vs 16) 1, pv (vb 17) 1], [3]⟩
def Fue115_14 := fs Fue115_12 [(14, vs 18), (15, vs 19), (43, tu [vs 18, vs 19]), (44, vs 16), (45, ps 4 1), (46, vs 12), (47, tu [vs 18, vs 19]), (48, vs 18), (49, vs 19)]
def Rue115_15 : Rg := ⟨9, 18, 5, Fue115_12, Bue115_7, [pv (vs 16) 0, pv (ps 4 1) 0, pl (vs 12) 0 4 1, pc (tu [vs 18, vs 19]) 0 139 [vs 16, vs 12] 2, pv (tu [vs 18, vs 19]) 1, pv (vs 18) 1, pv (vs 19) 1, pv (vs 18) 1, pv (vs 19) 1], [3]⟩
def Fue115_16 := fs Fue115_14 [(16, vs 20), (50, vs 18), (51, vs 20)]
def Rue115_17 : Rg := ⟨3, 20, 5, Fue115_14, Bue115_7, [pv (vs 18) 0, pc (vs 20) 0 53 [vs 18, li 1] 1, pv (vs 20) 1], [1]⟩
def Fue115_18 := fs Fue115_16 [(52, vs 19), (53, f1 lnF (vs 19)), (54, bo .gtr (f1 lnF (vs 19)) (li 0)), (55, bo .gtr (f1 lnF (vs 19)) (li 0)), (56, gd false (bo .gtr (f1 lnF (vs 19)) (li 0)) (vb 17)), (57, pk (bo .gtr (f1 lnF (vs 19)) (li 0)) (lb true) (vb 17))]
def Rue115_19 : Rg := ⟨6, 21, 5, Fue115_16, Bue115_7, [pv (vs 19) 0, pv (f1 lnF (vs 19)) 0, pv (bo .gtr (f1 lnF (vs 19)) (li 0)) 0, pv (bo .gtr (f1 lnF (vs 19)) (li 0)) 0, ⟨vb 17, 0, [], .val, gd false (bo .gtr (f1 lnF (vs 19)) (li 0)) (vb 17)⟩, ⟨pk (bo .gtr (f1 lnF (vs 19)) (li 0)) (lb true) (vb 17), 0, [], .pk, pk (bo .gtr (f1 lnF (vs 19)) (li 0)) (lb true) (vb 17)⟩], []⟩
def Fue115_20 := fs Fue115_18 [(16, vs 22), (58, vs 20), (59, vs 21), (60, vs 22)]
def Rue115_21 : Rg := ⟨3, 21, 5, Fue115_18, Bue115_7, [pv (vs 20) 0, pc (vs 21) 0 47 [lu 1] 1, pc (vs 22) 1 54 [vs 20, vs 21] 1], [1, 2]⟩
def Fue115_22 := fs Fue115_20 [(61, ps 3 0), (62, vb 8), (63, ps 4 0), (64, vb 11), (65, bo .neq (vb 8) (vb 11)), (66, vs 22), (67, ps 3 2), (68, vi 10), (69, ps 4 2), (70, vi 13), (71, bo .sub (vi 10) (vi 13)), (72, bo .sub (bo .add (bo .add (vi 6) (li 2)) (vi 14)) (vi 15)), (73, bo .sub (bo .sub (vi 10) (vi 13)) (bo .sub (bo .add (bo .add (vi 6) (li 2)) (vi 14)) (vi 15))), (74, bo .sub (bo .sub (bo .sub (vi 10) (vi 13)) (bo .sub (bo .add (bo .add (vi 6) (li 2)) (vi 14)) (vi 15))) (li 1)), (75, dg 23), (76, vi 6), (77, vb 7), (78, dg 26)]
def Rue115_23 : Rg := ⟨18, 23, 5, Fue115_20, Bue115_7, [pv (ps 3 0) 0, pl (vb 8) 0 3 0, pv (ps 4 0) 0, pl (vb 11) 0 4 0, pv (bo .neq (vb 8) (vb 11)) 0, pv (vs 22) 0, pv (ps 3 2) 0, pl (vi 10) 0 3 2, pv (ps 4 2) 0, pl (vi 13) 0 4 2, pv (bo .sub (vi 10) (vi 13)) 0, pv (bo .sub (bo .add (bo .add (vi 6) (li 2)) (vi 14)) (vi 15)) 0, pv (bo .sub (bo .sub (vi 10) (vi 13)) (bo .sub (bo .add (bo .add (vi 6) (li 2)) (vi 14)) (vi 15))) 0, pv (bo .sub (bo .sub (bo .sub (vi 10) (vi 13)) (bo .sub (bo .add (bo .add (vi 6) (li 2)) (vi 14)) (vi 15))) (li 1)) 0, pc (dg 23) 0 46 [bo .neq (vb 8) (vb 11), vs 22, bo .sub (bo .sub (bo .sub (vi 10) (vi 13)) (bo .sub (bo .add (bo .add (vi 6) (li 2)) (vi 14)) (vi 15))) (li 1)] 3, pv (vi 6) 0, pv (vb 7) 0, pc (dg 26) 1 108 [dg 23, vi 6, vb 7] 3], [14, 17]⟩
def Bue115_24 := [bb 25 (d3 0), bb 25 (d3 3), bb 25 (d3 26), bb 25 (d3 8), bb 25 (d3 11)]
def Fue115_25 := fs Fue115_18 [(61, ps 3 0), (62, vb 8), (63, ps 4 0), (64, vb 11), (65, bo .neq (vb 8) (vb 11)), (66, vs 20), (67, ps 3 2), (68, vi 10), (69, ps 4 2), (70, vi 13), (71, bo .sub (vi 10) (vi 13)), (72, bo .sub (bo .add (bo .add (vi 6) (li 2)) (vi 14)) (vi 15)), (73, bo .sub (bo .sub (vi 10) (vi 13)) (bo .sub (bo .add (bo .add (vi 6) (li 2)) (vi 14)) (vi 15))), (74, bo .sub (bo .sub (bo .sub (vi 10) (vi 13)) (bo .sub (bo .add (bo .add (vi 6) (li 2)) (vi 14)) (vi 15))) (li 1)), (75, dg 21), (76, vi 6), (77, vb 7), (78, dg 24)]
def Rue115_26 : Rg := ⟨18, 21, 5, Fue115_18, Bue115_7, [pv (ps 3 0) 0, pl (vb 8) 0 3 0, pv (ps 4 0) 0, pl (vb 11) 0 4 0, pv (bo .neq (vb 8) (vb 11)) 0, pv (vs 20) 0, pv (ps 3 2) 0, pl (vi 10) 0 3 2, pv (ps 4 2) 0, pl (vi 13) 0 4 2, pv (bo .sub (vi 10) (vi 13)) 0, pv (bo .sub (bo .add (bo .add (vi 6) (li 2)) (vi 14)) (vi 15)) 0, pv (bo .sub (bo .sub (vi 10) (vi 13)) (bo .sub (bo .add (bo .add (vi 6) (li 2)) (vi 14)) (vi 15))) 0, pv (bo .sub (bo .sub (bo .sub (vi 10) (vi 13)) (bo .sub (bo .add (bo .add (vi 6) (li 2)) (vi 14)) (vi 15))) (li 1)) 0, pc (dg 21) 0 46 [bo .neq (vb 8) (vb 11), vs 20, bo .sub (bo .sub (bo .sub (vi 10) (vi 13)) (bo .sub (bo .add (bo .add (vi 6) (li 2)) (vi 14)) (vi 15))) (li 1)] 3, pv (vi 6) 0, pv (vb 7) 0, pc (dg 24) 1 108 [dg 21, vi 6, vb 7] 3], [14, 17]⟩
def Bue115_27 := [bb 25 (d3 0), bb 25 (d3 3), bb 25 (d3 24), bb 25 (d3 8), bb 25 (d3 11)]
theorem dover_q {u v : Value} {x y : Rat} {N M p : Nat} {up : Bool} {w : World} (h : CQ w u x N) (h' : CQ w v y M) (hx : 0 < x) (hy : 0 < y) (hs : Short p x) (hN : N + M ≤ 1000000) (hp : 1 ≤ p) (hp2 : p ≤ 1000000) (hT : TB w) :
 Calls Tryz.prog 115 #[u, v, .int .i64 (p : Int), .bool up] w fun en w' => ∃ v' c, en = .returned v' ∧ PQ w' w.heap.size v' c (3 * (N + M) + 2 * p + 201) ∧ CutOf up (x * y⁻¹) c (ep p) ∧ Short p c ∧ BL w w' := by
 obtain ⟨z, e, h, rfl, hB⟩ := h
 obtain ⟨y, f, h', rfl, hB'⟩ := h'
 obtain ⟨b0, A0, n0, c0, x0, rfl⟩ := h.ex
 obtain ⟨b9, A9, n9, c9, x9, rfl⟩ := h'.ex
 have l := bd_len hB; have lo := bd_lo hB; have hi := bd_hi hB
 have l' := bd_len hB'; have lo' := bd_lo hB'; have hi' := bd_hi hB'
 have hbl : bl (cman z) ≤ N := bl_le_iff.2 (bd_man hB)
 have hbl' : bl (cman y) ≤ M := bl_le_iff.2 (bd_man hB')
 have hz := Dv_pos.1 hx; have hy := Dv_pos.1 hy
 have hmz : 0 < cman z := Nat.pos_of_ne_zero fun h => by have := cman_eq_zero.1 h; omega
 have hmy : 0 < cman y := Nat.pos_of_ne_zero fun h => by have := cman_eq_zero.1 h; omega
 have hnz : cneg z = false := by unfold cneg; exact decide_eq_false (by omega)
 have hny : cneg y = false := by unfold cneg; exact decide_eq_false (by omega)
 have hsz := short_bl hs
 obtain ⟨k, hk, hk2, hk3⟩ := dover_k (p := p) (a := bl (cman z)) (b := bl (cman y)) (by omega) (by omega) (by omega)
 have hz2 : z ≠ 0 := by omega
 refine fn_enter (u := 64) (fn := Tryz.f115) Tryz.func115 rfl Fue115_0 [.bool b0, .slice A0 n0 c0, .int .i64 x0, .bool b9, .slice A9 n9 c9, .int .i64 x9, .int .i64 (p : Int), .bool up] (by kernel_rfl) rfl (fun a0 S0 r0 => ?_)
 refine wp_seq (rk Rue115_3 [] Fue115_1 Bue115_2 S0 r0 ?_)
 intro _ _ _ r1 S1
 refine wp_seq (rk Rue115_6 [.st 3 0 (d3 8), .st 4 0 (d3 11)] Fue115_4 Bue115_7 S1 r1 ?_)
 intro _ _ r2 _
 refine (done_dy (h.below r2.first) hB (by omega)).mono ?_
 rintro _ V1 ⟨v, rfl, h1, k1⟩
 obtain ⟨b1, A1, n1, c1, x1, rfl⟩ := h1.ex
 replace h1 := h1.lower r2.fs
 refine ⟨[.bool b1, .slice A1 n1 c1, .int .i64 x1], rfl, rfl, rfl, k1, ?_⟩
 obtain ⟨hb1, hx1, p1⟩ := h1.cells
 have hlz := p1.len
 intro _ _ r3 _
 refine (done_dy (h'.below r3.first) hB' (by omega)).mono ?_
 rintro _ V2 ⟨v, rfl, h2, k2⟩
 obtain ⟨b2, A2, n2, c2, x2, rfl⟩ := h2.ex
 replace h2 := h2.lower r3.fs
 refine ⟨[.bool b2, .slice A2 n2 c2, .int .i64 x2], rfl, rfl, rfl, k2, ?_⟩
 obtain ⟨hb2, hx2, p2⟩ := h2.cells
 intro _ _ _ r4 S4
 refine wp_seq ?_
 refine wp_seq (rk Rue115_9 [] Fue115_8 Bue115_7 S4 r4 ?_)
 intro _ _ _ r5 S5
 refine wp_cond_split (t := ((n1 : Nat) : Int) == 0) (S5.cnd (by kernel_rfl)) (fun q1 => ?_) (fun q1 => ?_)
 · rw [hlz] at q1; exact absurd (len_zero q1) (by omega)
 · refine wp_skip ?_
   refine wp_seq (rk Rue115_11 [] Fue115_10 Bue115_7 S5 r5 ?_)
   intro _ g6 r6 _
   refine (len_d (p2.lat (r6.at_ 1 _ rfl)).c (by omega)).mono ?_
   rintro _ V3 ⟨rfl, k3⟩
   refine ⟨[.int .i64 (bl (cman y) : Int)], rfl, rfl, rfl, k3, ?_⟩
   intro _ _ r7 _
   refine (len_d (p1.lat (r7.at_ 0 _ rfl)).c (by omega)).mono ?_
   rintro _ V4 ⟨rfl, k4⟩
   refine ⟨[.int .i64 (bl (cman z) : Int)], rfl, rfl, rfl, k4, ?_⟩
   intro _ _ _ r8 S8
   refine wp_seq (rk Rue115_13 [] Fue115_12 Bue115_7 S8 r8 ?_)
   intro W9 _ r9 _
   show Calls Tryz.prog 128 #[.slice A1 n1 c1, .int .i64 (IntKind.i64.wrap ((IntKind.i64.wrap ((IntKind.i64.wrap ((p : Int) + 2)) + (bl (cman y) : Int))) - (bl (cman z) : Int)))] W9 _
   refine (dleft_n _ k hk (p1.lat (r9.at_ 0 _ rfl)).c (by omega) (by omega) (tb hT r9)).mono ?_
   rintro _ V5 ⟨v, rfl, h5, k5⟩
   obtain ⟨A5, n5, c5, rfl⟩ := h5.ex
   replace h5 := h5.lower r9.fs
   refine ⟨[.slice A5 n5 c5, .bool false], rfl, rfl, rfl, k5, ?_⟩
   intro _ _ _ r10 S10
   refine wp_seq (rk Rue115_15 [] Fue115_14 Bue115_7 S10 r10 ?_)
   intro _ _ r11 _
   refine (ddiv_n (h5.lat (r11.at_ 4 _ rfl)).c (p2.lat (r11.at_ 1 _ rfl)).c hmy (by have := bl_mul (b := 2 ^ k) hbl (bl_pow_le k); omega) (by omega) (tb hT r11)).mono ?_
   rintro _ V6 ⟨v, r, rfl, h6, g6, k6⟩
   obtain ⟨A6, n6, c6, rfl⟩ := h6.ex
   obtain ⟨B6, m6, d6, rfl⟩ := g6.ex
   replace h6 := h6.lower r11.fs
   replace g6 := g6.lower r11.fs
   refine ⟨[.slice A6 n6 c6, .slice B6 m6 d6], rfl, rfl, rfl, k6, ?_⟩
   have hlen : decide (((m6 : Nat) : Int) > 0) = decide (cman z * 2 ^ k % cman y ≠ 0) := by rw [g6.len]; exact len_pos
   have hE : IntKind.i64.wrap (IntKind.i64.wrap (IntKind.i64.wrap (x1 - x2) - IntKind.i64.wrap (IntKind.i64.wrap (IntKind.i64.wrap ((p : Int) + 2) + (bl (cman y) : Int)) - (bl (cman z) : Int))) - 1) = cexp z e - cexp y f - (k : Int) - 1 := by rw [hk, hx1, hx2, i64_id (x := cexp z e - cexp y f) (by omega) (by omega), i64_id (x := cexp z e - cexp y f - (k : Int)) (by omega) (by omega), i64_id (by omega) (by omega)]
   have hqb : bl (cman z * 2 ^ k / cman y) ≤ 1073741824 := by have := bl_div (d := cman y) (bl_mul (b := 2 ^ k) hbl (bl_pow_le k)); omega
   have hneg : (!(b1 == b2)) = false := by rw [hb1, hb2, hnz, hny]; rfl
   have hq2 : bl (cman z * 2 ^ k / cman y * 2 ^ 1) ≤ 1073741826 := by have := bl_mul (M := 2) (b := 2 ^ 1) hqb (by decide); omega
   have hS : Bd (3 * (N + M) + 2 * p + 200) (((2 * (cman z * 2 ^ k / cman y) + (if decide (cman z * 2 ^ k % cman y ≠ 0) = true then 1 else 0) : Nat) : Nat) : Int) (cexp z e - cexp y f - (k : Int) - 1) := over_bd (by have := bl_div (d := cman y) (bl_mul (b := 2 ^ k) hbl (bl_pow_le k)); omega) (by omega) (by omega)
   intro _ _ _ r12 S12
   refine wp_seq (rk Rue115_17 [] Fue115_16 Bue115_7 S12 r12 ?_)
   intro _ _ r13 _
   refine (shl_d _ 1 rfl (h6.lat (r13.at_ 5 _ rfl)).c (by omega) (by decide)).mono ?_
   rintro _ V7 ⟨v, rfl, h7, k7⟩
   obtain ⟨A7, n7, c7, rfl⟩ := h7.ex
   replace h7 := h7.lower r13.fs
   refine ⟨[.slice A7 n7 c7], rfl, rfl, rfl, k7, ?_⟩
   intro _ _ _ r14 S14
   refine wp_seq ?_
   refine wp_seq (rk Rue115_19 [] Fue115_18 Bue115_7 S14 r14 ?_)
   intro _ _ _ r15 S15
   refine wp_cond_split (t := if decide (((m6 : Nat) : Int) > 0) then true else false) (S15.cnd (by kernel_rfl)) (fun q2 => ?_) (fun q2 => ?_)
   · have hst := st_odd (q := cman z * 2 ^ k / cman y) (d := decide (cman z * 2 ^ k % cman y ≠ 0)) (by rw [← hlen]; rw [pick_t] at q2; exact q2)
     refine rk Rue115_21 [.mv (vs 22)] Fue115_20 Bue115_7 S15 r15 ?_
     intro W16 g16 r16 _
     refine (of_d 1 (by decide) _).mono ?_
     rintro _ V8 ⟨v, rfl, h8, k8⟩
     obtain ⟨A8, n8, c8, rfl⟩ := h8.ex
     replace h8 := h8.lower r16.fs
     refine ⟨[.slice A8 n8 c8], rfl, rfl, rfl, k8, ?_⟩
     intro W17 g17 r17 _
     refine (add_d (h7.lat (r17.at_ 6 _ rfl)).c (h8.lat (r17.at_ 7 _ rfl)).c (by omega) (by decide)).mono ?_
     rintro _ V9 ⟨v, rfl, h9, k9⟩
     obtain ⟨A9, n9, c9, rfl⟩ := h9.ex
     replace h9 := h9.lower r17.fs
     refine ⟨[.slice A9 n9 c9], rfl, rfl, rfl, k9, ?_⟩
     intro a18 g18 W18 r18 S18
     refine wp_seq (rk Rue115_23 [.st 2 0 (d3 26)] Fue115_22 Bue115_24 S18 r18 ?_)
     intro W19 _ r19 _
     show Calls Tryz.prog 46 #[.bool (!(b1 == b2)), .slice A9 n9 c9, .int .i64 (IntKind.i64.wrap ((IntKind.i64.wrap ((IntKind.i64.wrap (x1 - x2)) - (IntKind.i64.wrap ((IntKind.i64.wrap ((IntKind.i64.wrap ((p : Int) + 2)) + (bl (cman y) : Int))) - (bl (cman z) : Int))))) - 1))] W19 _
     rw [hneg, hE]
     refine (form_d false (cexp z e - cexp y f - (k : Int) - 1) (h9.lat (r19.at_ 8 _ rfl)).c (by have := bl_add (K := 1073741826) (a := cman z * 2 ^ k / cman y * 2 ^ 1) (b := 1) hq2 (by decide); omega) (by omega) (by omega)).mono ?_
     rintro _ V10 ⟨v, rfl, h10, k10⟩
     obtain ⟨b10, A10, n10, c10, x10, rfl⟩ := h10.ex
     replace h10 := h10.lower r19.fs
     refine ⟨[.bool b10, .slice A10 n10 c10, .int .i64 x10], rfl, rfl, rfl, k10, ?_⟩
     replace h10 := h10.cast_z hst
     intro _ _ r20 _
     refine (dtrim_x (p := p) (up := up) (N := 3 * (N + M) + 2 * p + 200) ⟨_, _, (h10.lat (r20.at_ 9 _ rfl)).c, rfl, hS⟩ (by omega) hp (by omega) (tb hT r20)).mono ?_
     rintro _ V11 ⟨v, c, rfl, hT10, ec, sc, zc, k11⟩
     obtain ⟨b11, A11, n11, c11, x11, rfl⟩ := hT10.ex
     replace hT10 := hT10.lower r20.fs
     refine ⟨[.bool b11, .slice A11 n11 c11, .int .i64 x11], rfl, rfl, rfl, k11, ?_⟩
     intro _ _ _ r21 S21
     exact rt S21 [.agg #[.bool b11, .slice A11 n11 c11, .int .i64 x11]] (⟨_, _, rfl, (hT10.lat (r21.at_ 10 _ rfl)), by rw [over_val hz hy]; exact over_fin hmy hp (Nat.le_of_eq hk3) hmz ec zc, sc, r21.first⟩)
   · have hst := st_even (q := cman z * 2 ^ k / cman y) (d := decide (cman z * 2 ^ k % cman y ≠ 0)) (by rw [← hlen]; rw [pick_t] at q2; exact q2)
     refine wp_skip ?_
     refine wp_seq (rk Rue115_26 [.st 2 0 (d3 24)] Fue115_25 Bue115_27 S15 r15 ?_)
     intro W16 g16 r16 _
     show Calls Tryz.prog 46 #[.bool (!(b1 == b2)), .slice A7 n7 c7, .int .i64 (IntKind.i64.wrap ((IntKind.i64.wrap ((IntKind.i64.wrap (x1 - x2)) - (IntKind.i64.wrap ((IntKind.i64.wrap ((IntKind.i64.wrap ((p : Int) + 2)) + (bl (cman y) : Int))) - (bl (cman z) : Int))))) - 1))] W16 _
     rw [hneg, hE]
     refine (form_d false (cexp z e - cexp y f - (k : Int) - 1) (h7.lat (r16.at_ 6 _ rfl)).c (by omega) (by omega) (by omega)).mono ?_
     rintro _ V12 ⟨v, rfl, h10, k12⟩
     obtain ⟨b12, A12, n12, c12, x12, rfl⟩ := h10.ex
     replace h10 := h10.lower r16.fs
     refine ⟨[.bool b12, .slice A12 n12 c12, .int .i64 x12], rfl, rfl, rfl, k12, ?_⟩
     replace h10 := h10.cast_z hst
     intro W17 g17 r17 _
     refine (dtrim_x (p := p) (up := up) (N := 3 * (N + M) + 2 * p + 200) ⟨_, _, (h10.lat (r17.at_ 7 _ rfl)).c, rfl, hS⟩ (by omega) hp (by omega) (tb hT r17)).mono ?_
     rintro _ V13 ⟨v, c, rfl, hT10, ec, sc, zc, k13⟩
     obtain ⟨b13, A13, n13, c13, x13, rfl⟩ := hT10.ex
     replace hT10 := hT10.lower r17.fs
     refine ⟨[.bool b13, .slice A13 n13 c13, .int .i64 x13], rfl, rfl, rfl, k13, ?_⟩
     intro a18 g18 W18 r18 S18
     exact rt S18 [.agg #[.bool b13, .slice A13 n13 c13, .int .i64 x13]] (⟨_, _, rfl, (hT10.lat (r18.at_ 8 _ rfl)), by rw [over_val hz hy]; exact over_fin hmy hp (Nat.le_of_eq hk3) hmz ec zc, sc, r18.first⟩)
def Fue75_0 := [ig 0, ig 6, vi 12, U, U, U, U, U, U, U, U, U, U, U, U, U, U, U, U, U, U, U, U, U, U, U, U, U, U, U, U, U, U, U, U, U, U, U, U, U, U, U, U, U, U, U, U, U, U, U, U, U, U, U, U, U, U, U, U, U, U, U, U, U, U, U]
def Fue75_1 := fs Fue75_0 [(3, ps 0 0), (4, ps 1 0), (6, ps 2 0)]
def Bue75_2 := [bb 28 (i6 0), bb 28 (i6 6), bb 28 o6]
def Rue75_3 : Rg := ⟨3, 13, 0, Fue75_0, Bue75_2, [pa 0 0, pa 1 0, pa 2 0], []⟩
def Fue75_4 := fs Fue75_1 [(7, osl (ps 3 0) 4), (9, ps 0 0), (10, dg 0), (11, ps 1 0), (12, dg 6), (13, vi 12), (14, dg 13), (15, ps 0 0), (16, dg 0), (17, ps 1 3), (18, dg 9), (19, vi 12), (20, dg 16), (21, ps 0 3), (22, dg 3), (23, ps 1 0), (24, dg 6), (25, vi 12), (26, dg 19), (27, ps 0 3), (28, dg 3), (29, ps 1 3), (30, dg 9), (31, vi 12), (32, dg 22), (33, osl (ps 3 0) 4)]
def Bue75_5 := [bb 28 (i6 0), bb 28 (i6 6), bb 28 o6, bb 25 [vb 13, vs 14, vi 15, vb 16, vs 17, vi 18, vb 19, vs 20, vi 21, vb 22, vs 23, vi 24]]
def Rue75_6 : Rg := ⟨26, 13, 3, Fue75_1, Bue75_5, [pv (ps 0 0) 0, pl (dg 0) 0 0 0, pv (ps 1 0) 0, pl (dg 6) 0 1 0, pv (vi 12) 0, pc (dg 13) 0 115 [dg 0, dg 6, vi 12, lb false] 3, pv (ps 0 0) 0, pl (dg 0) 0 0 0, pv (ps 1 3) 0, pl (dg 9) 0 1 3, pv (vi 12) 0, pc (dg 16) 1 115 [dg 0, dg 9, vi 12, lb false] 3, pv (ps 0 3) 0, pl (dg 3) 0 0 3, pv (ps 1 0) 0, pl (dg 6) 0 1 0, pv (vi 12) 0, pc (dg 19) 2 115 [dg 3, dg 6, vi 12, lb false] 3, pv (ps 0 3) 0, pl (dg 3) 0 0 3, pv (ps 1 3) 0, pl (dg 9) 0 1 3, pv (vi 12) 0, pc (dg 22) 3 115 [dg 3, dg 9, vi 12, lb false] 3, ⟨osl (ps 3 0) 4, 4, [3], .al 3, osl (ps 3 0) 4⟩, ⟨osl (ps 3 0) 4, 4, [3], .val, osl (ps 3 0) 4⟩], [5, 11, 17, 23]⟩
def Fue75_7 := fs Fue75_4 [(8, osl (ps 4 0) 4), (34, ps 0 0), (35, dg 0), (36, ps 1 0), (37, dg 6), (38, vi 12), (39, dg 25), (40, ps 0 0), (41, dg 0), (42, ps 1 3), (43, dg 9), (44, vi 12), (45, dg 28), (46, ps 0 3), (47, dg 3), (48, ps 1 0), (49, dg 6), (50, vi 12), (51, dg 31), (52, ps 0 3), (53, dg 3), (54, ps 1 3), (55, dg 9), (56, vi 12), (57, dg 34), (58, osl (ps 4 0) 4)]
def Bue75_8 := [bb 28 (i6 0), bb 28 (i6 6), bb 28 o6, bb 25 [vb 13, vs 14, vi 15, vb 16, vs 17, vi 18, vb 19, vs 20, vi 21, vb 22, vs 23, vi 24], bb 25 [vb 25, vs 26, vi 27, vb 28, vs 29, vi 30, vb 31, vs 32, vi 33, vb 34, vs 35, vi 36]]
def Rue75_9 : Rg := ⟨26, 25, 4, Fue75_4, Bue75_8, [pv (ps 0 0) 0, pl (dg 0) 0 0 0, pv (ps 1 0) 0, pl (dg 6) 0 1 0, pv (vi 12) 0, pc (dg 25) 0 115 [dg 0, dg 6, vi 12, lb true] 3, pv (ps 0 0) 0, pl (dg 0) 0 0 0, pv (ps 1 3) 0, pl (dg 9) 0 1 3, pv (vi 12) 0, pc (dg 28) 1 115 [dg 0, dg 9, vi 12, lb true] 3, pv (ps 0 3) 0, pl (dg 3) 0 0 3, pv (ps 1 0) 0, pl (dg 6) 0 1 0, pv (vi 12) 0, pc (dg 31) 2 115 [dg 3, dg 6, vi 12, lb true] 3, pv (ps 0 3) 0, pl (dg 3) 0 0 3, pv (ps 1 3) 0, pl (dg 9) 0 1 3, pv (vi 12) 0, pc (dg 34) 3 115 [dg 3, dg 9, vi 12, lb true] 3, ⟨osl (ps 4 0) 4, 4, [4], .al 4, osl (ps 4 0) 4⟩, ⟨osl (ps 4 0) 4, 4, [4], .val, osl (ps 4 0) 4⟩], [5, 11, 17, 23]⟩
def Fue75_10 := fs Fue75_7 [(59, osl (ps 3 0) 4), (60, ig 37), (61, dg 37), (62, osl (ps 4 0) 4), (63, ig 43), (64, dg 46), (65, ag [vb 37, vs 38, vi 39, vb 46, vs 47, vi 48])]
def Rue75_11 : Rg := ⟨7, 37, 5, Fue75_7, Bue75_8, [pv (osl (ps 3 0) 4) 0, ⟨ig 37, 0, [], .cl 0 64 [osl (ps 3 0) 4] 6 [3], ig 37⟩, pv (dg 37) 1, pv (osl (ps 4 0) 4) 0, ⟨ig 43, 1, [], .cl 1 64 [osl (ps 4 0) 4] 6 [4], ig 43⟩, pv (dg 46) 2, pv (ag [vb 37, vs 38, vi 39, vb 46, vs 47, vi 48]) 2], [1, 4]⟩
def Bue75_12 := [bb 28 (i6 0), bb 28 (i6 6), bb 28 [vb 37, vs 38, vi 39, vb 46, vs 47, vi 48], bb 25 [vb 13, vs 14, vi 15, vb 16, vs 17, vi 18, vb 19, vs 20, vi 21, vb 22, vs 23, vi 24], bb 25 [vb 25, vs 26, vi 27, vb 28, vs 29, vi 30, vb 31, vs 32, vi 33, vb 34, vs 35, vi 36]]
theorem ddivi_q {u v : Value} {a b c d : Rat} {N M p : Nat} {w : World} (h : CI w u a b N) (h' : CI w v c d M) (ha : 0 < a) (hab : a ≤ b) (hc : 0 < c) (hcd : c ≤ d) (sa : Short p a) (sb : Short p b) (hN : N + M ≤ 1000000) (hp : 1 ≤ p) (hp2 : p ≤ 1000000) (hT : TB w) :
 Calls Tryz.prog 75 #[u, v, .int .i64 (p : Int)] w fun en w' => ∃ v' l r, en = .returned v' ∧ PI w' w.heap.size v' l r (3 * (N + M) + 2 * p + 201) ∧ CutOf false (a * d⁻¹) l (ep p) ∧ CutOf true (b * c⁻¹) r (ep p) ∧ BL w w' := by
 obtain ⟨b0, A0, n0, c0, x0, d0, B0, m0, e0, y0, rfl⟩ := h.ex
 obtain ⟨b99, A99, n99, c99, x99, d99, B99, m99, e99, y99, rfl⟩ := h'.ex
 have hb : 0 < b := by grind
 have hd : 0 < d := by grind
 refine fn_enter (u := 64) (fn := Tryz.f75) Tryz.func75 rfl Fue75_0 [.bool b0, .slice A0 n0 c0, .int .i64 x0, .bool d0, .slice B0 m0 e0, .int .i64 y0, .bool b99, .slice A99 n99 c99, .int .i64 x99, .bool d99, .slice B99 m99 e99, .int .i64 y99, .int .i64 (p : Int)] (by kernel_rfl) rfl (fun a0 S0 r0 => ?_)
 refine wp_seq (rk Rue75_3 [] Fue75_1 Bue75_2 S0 r0 ?_)
 intro _ _ _ r1 S1
 refine wp_seq (rk Rue75_6 [] Fue75_4 Bue75_5 S1 r1 ?_)
 intro _ _ r2 _
 refine (dover_q (N := N) (M := M) (p := p) (up := false) (h.below r2.first).lo (h'.below r2.first).lo ha hc sa (by omega) hp (by omega) (tb hT r2)).mono ?_
 rintro _ V1 ⟨v, y1, rfl, h1, e1, s1, k1⟩
 obtain ⟨b1, A1, n1, c1, x1, rfl⟩ := h1.ex
 replace h1 := h1.lower r2.fs
 refine ⟨[.bool b1, .slice A1 n1 c1, .int .i64 x1], rfl, rfl, rfl, k1, ?_⟩
 intro _ _ r3 _
 refine (dover_q (N := N) (M := M) (p := p) (up := false) (h.below r3.first).lo (h'.below r3.first).hi ha hd sa (by omega) hp (by omega) (tb hT r3)).mono ?_
 rintro _ V2 ⟨v, y2, rfl, h2, e2, s2, k2⟩
 obtain ⟨b2, A2, n2, c2, x2, rfl⟩ := h2.ex
 replace h2 := h2.lower r3.fs
 refine ⟨[.bool b2, .slice A2 n2 c2, .int .i64 x2], rfl, rfl, rfl, k2, ?_⟩
 intro _ _ r4 _
 refine (dover_q (N := N) (M := M) (p := p) (up := false) (h.below r4.first).hi (h'.below r4.first).lo hb hc sb (by omega) hp (by omega) (tb hT r4)).mono ?_
 rintro _ V3 ⟨v, y3, rfl, h3, e3, s3, k3⟩
 obtain ⟨b3, A3, n3, c3, x3, rfl⟩ := h3.ex
 replace h3 := h3.lower r4.fs
 refine ⟨[.bool b3, .slice A3 n3 c3, .int .i64 x3], rfl, rfl, rfl, k3, ?_⟩
 intro _ _ r5 _
 refine (dover_q (N := N) (M := M) (p := p) (up := false) (h.below r5.first).hi (h'.below r5.first).hi hb hd sb (by omega) hp (by omega) (tb hT r5)).mono ?_
 rintro _ V4 ⟨v, y4, rfl, h4, e4, s4, k4⟩
 obtain ⟨b4, A4, n4, c4, x4, rfl⟩ := h4.ex
 replace h4 := h4.lower r5.fs
 refine ⟨[.bool b4, .slice A4 n4 c4, .int .i64 x4], rfl, rfl, rfl, k4, ?_⟩
 intro _ _ _ r6 S6
 refine wp_seq (rk Rue75_9 [] Fue75_7 Bue75_8 S6 r6 ?_)
 intro _ _ r7 _
 refine (dover_q (N := N) (M := M) (p := p) (up := true) (h.below r7.first).lo (h'.below r7.first).lo ha hc sa (by omega) hp (by omega) (tb hT r7)).mono ?_
 rintro _ V5 ⟨v, y5, rfl, h5, e5, s5, k5⟩
 obtain ⟨b5, A5, n5, c5, x5, rfl⟩ := h5.ex
 replace h5 := h5.lower r7.fs
 refine ⟨[.bool b5, .slice A5 n5 c5, .int .i64 x5], rfl, rfl, rfl, k5, ?_⟩
 intro _ _ r8 _
 refine (dover_q (N := N) (M := M) (p := p) (up := true) (h.below r8.first).lo (h'.below r8.first).hi ha hd sa (by omega) hp (by omega) (tb hT r8)).mono ?_
 rintro _ V6 ⟨v, y6, rfl, h6, e6, s6, k6⟩
 obtain ⟨b6, A6, n6, c6, x6, rfl⟩ := h6.ex
 replace h6 := h6.lower r8.fs
 refine ⟨[.bool b6, .slice A6 n6 c6, .int .i64 x6], rfl, rfl, rfl, k6, ?_⟩
 intro _ _ r9 _
 refine (dover_q (N := N) (M := M) (p := p) (up := true) (h.below r9.first).hi (h'.below r9.first).lo hb hc sb (by omega) hp (by omega) (tb hT r9)).mono ?_
 rintro _ V7 ⟨v, y7, rfl, h7, e7, s7, k7⟩
 obtain ⟨b7, A7, n7, c7, x7, rfl⟩ := h7.ex
 replace h7 := h7.lower r9.fs
 refine ⟨[.bool b7, .slice A7 n7 c7, .int .i64 x7], rfl, rfl, rfl, k7, ?_⟩
 intro _ _ r10 _
 refine (dover_q (N := N) (M := M) (p := p) (up := true) (h.below r10.first).hi (h'.below r10.first).hi hb hd sb (by omega) hp (by omega) (tb hT r10)).mono ?_
 rintro _ V8 ⟨v, y8, rfl, h8, e8, s8, k8⟩
 obtain ⟨b8, A8, n8, c8, x8, rfl⟩ := h8.ex
 replace h8 := h8.lower r10.fs
 refine ⟨[.bool b8, .slice A8 n8 c8, .int .i64 x8], rfl, rfl, rfl, k8, ?_⟩
 intro _ _ _ r11 S11
 refine wp_seq (rk Rue75_11 [.st 2 0 [vb 37, vs 38, vi 39, vb 46, vs 47, vi 48]] Fue75_10 Bue75_12 S11 r11 ?_)
 intro W12 g12 r12 q12
 refine (dspan_q (eb := (fun | 0 => b1 | 1 => b2 | 2 => b3 | _ => b4)) (eA := (fun | 0 => A1 | 1 => A2 | 2 => A3 | _ => A4)) (en := (fun | 0 => n1 | 1 => n2 | 2 => n3 | _ => n4)) (ec := (fun | 0 => c1 | 1 => c2 | 2 => c3 | _ => c4)) (ex := (fun | 0 => x1 | 1 => x2 | 2 => x3 | _ => x4)) (q := (fun | 0 => y1 | 1 => y2 | 2 => y3 | _ => y4)) (g0 := g12 3) (N := 3 * (N + M) + 2 * p + 201) (q12 3 (by decide) _ rfl) (four_of (h1.lat (r12.at_ 0 _ rfl)).c (h2.lat (r12.at_ 1 _ rfl)).c (h3.lat (r12.at_ 2 _ rfl)).c (h4.lat (r12.at_ 3 _ rfl)).c) (by omega) (tb hT r12)).mono ?_
 rintro _ V9 ⟨i9, j9, hi9, hj9, hq9, rfl, k9⟩
 refine ⟨[.bool ((fun | 0 => b1 | 1 => b2 | 2 => b3 | _ => b4) i9), .slice ((fun | 0 => A1 | 1 => A2 | 2 => A3 | _ => A4) i9) ((fun | 0 => n1 | 1 => n2 | 2 => n3 | _ => n4) i9) ((fun | 0 => c1 | 1 => c2 | 2 => c3 | _ => c4) i9), .int .i64 ((fun | 0 => x1 | 1 => x2 | 2 => x3 | _ => x4) i9), .bool ((fun | 0 => b1 | 1 => b2 | 2 => b3 | _ => b4) j9), .slice ((fun | 0 => A1 | 1 => A2 | 2 => A3 | _ => A4) j9) ((fun | 0 => n1 | 1 => n2 | 2 => n3 | _ => n4) j9) ((fun | 0 => c1 | 1 => c2 | 2 => c3 | _ => c4) j9), .int .i64 ((fun | 0 => x1 | 1 => x2 | 2 => x3 | _ => x4) j9)], rfl, rfl, rfl, k9, ?_⟩
 intro W13 g13 r13 q13
 refine (dspan_q (eb := (fun | 0 => b5 | 1 => b6 | 2 => b7 | _ => b8)) (eA := (fun | 0 => A5 | 1 => A6 | 2 => A7 | _ => A8)) (en := (fun | 0 => n5 | 1 => n6 | 2 => n7 | _ => n8)) (ec := (fun | 0 => c5 | 1 => c6 | 2 => c7 | _ => c8)) (ex := (fun | 0 => x5 | 1 => x6 | 2 => x7 | _ => x8)) (q := (fun | 0 => y5 | 1 => y6 | 2 => y7 | _ => y8)) (g0 := g13 4) (N := 3 * (N + M) + 2 * p + 201) (q13 4 (by decide) _ rfl) (four_of (h5.lat (r13.at_ 4 _ rfl)).c (h6.lat (r13.at_ 5 _ rfl)).c (h7.lat (r13.at_ 6 _ rfl)).c (h8.lat (r13.at_ 7 _ rfl)).c) (by omega) (tb hT r13)).mono ?_
 rintro _ V10 ⟨i10, j10, hi10, hj10, hq10, rfl, k10⟩
 refine ⟨[.bool ((fun | 0 => b5 | 1 => b6 | 2 => b7 | _ => b8) i10), .slice ((fun | 0 => A5 | 1 => A6 | 2 => A7 | _ => A8) i10) ((fun | 0 => n5 | 1 => n6 | 2 => n7 | _ => n8) i10) ((fun | 0 => c5 | 1 => c6 | 2 => c7 | _ => c8) i10), .int .i64 ((fun | 0 => x5 | 1 => x6 | 2 => x7 | _ => x8) i10), .bool ((fun | 0 => b5 | 1 => b6 | 2 => b7 | _ => b8) j10), .slice ((fun | 0 => A5 | 1 => A6 | 2 => A7 | _ => A8) j10) ((fun | 0 => n5 | 1 => n6 | 2 => n7 | _ => n8) j10) ((fun | 0 => c5 | 1 => c6 | 2 => c7 | _ => c8) j10), .int .i64 ((fun | 0 => x5 | 1 => x6 | 2 => x7 | _ => x8) j10)], rfl, rfl, rfl, k10, ?_⟩
 intro _ _ _ r14 S14
 exact rt S14 [.agg #[.bool ((fun | 0 => b1 | 1 => b2 | 2 => b3 | _ => b4) i9), .slice ((fun | 0 => A1 | 1 => A2 | 2 => A3 | _ => A4) i9) ((fun | 0 => n1 | 1 => n2 | 2 => n3 | _ => n4) i9) ((fun | 0 => c1 | 1 => c2 | 2 => c3 | _ => c4) i9), .int .i64 ((fun | 0 => x1 | 1 => x2 | 2 => x3 | _ => x4) i9), .bool ((fun | 0 => b5 | 1 => b6 | 2 => b7 | _ => b8) j10), .slice ((fun | 0 => A5 | 1 => A6 | 2 => A7 | _ => A8) j10) ((fun | 0 => n5 | 1 => n6 | 2 => n7 | _ => n8) j10) ((fun | 0 => c5 | 1 => c6 | 2 => c7 | _ => c8) j10), .int .i64 ((fun | 0 => x5 | 1 => x6 | 2 => x7 | _ => x8) j10)]] (⟨_, _, _, rfl, .mk ((four_of (p := fun k => PQ _ w.heap.size (.agg #[.bool ((fun | 0 => b1 | 1 => b2 | 2 => b3 | _ => b4) k), .slice ((fun | 0 => A1 | 1 => A2 | 2 => A3 | _ => A4) k) ((fun | 0 => n1 | 1 => n2 | 2 => n3 | _ => n4) k) ((fun | 0 => c1 | 1 => c2 | 2 => c3 | _ => c4) k), .int .i64 ((fun | 0 => x1 | 1 => x2 | 2 => x3 | _ => x4) k)]) ((fun | 0 => y1 | 1 => y2 | 2 => y3 | _ => y4) k) (3 * (N + M) + 2 * p + 201)) (h1.lat (r14.at_ 0 _ rfl)) (h2.lat (r14.at_ 1 _ rfl)) (h3.lat (r14.at_ 2 _ rfl)) (h4.lat (r14.at_ 3 _ rfl)) i9 hi9)) ((four_of (p := fun k => PQ _ w.heap.size (.agg #[.bool ((fun | 0 => b5 | 1 => b6 | 2 => b7 | _ => b8) k), .slice ((fun | 0 => A5 | 1 => A6 | 2 => A7 | _ => A8) k) ((fun | 0 => n5 | 1 => n6 | 2 => n7 | _ => n8) k) ((fun | 0 => c5 | 1 => c6 | 2 => c7 | _ => c8) k), .int .i64 ((fun | 0 => x5 | 1 => x6 | 2 => x7 | _ => x8) k)]) ((fun | 0 => y5 | 1 => y6 | 2 => y7 | _ => y8) k) (3 * (N + M) + 2 * p + 201)) (h5.lat (r14.at_ 4 _ rfl)) (h6.lat (r14.at_ 5 _ rfl)) (h7.lat (r14.at_ 6 _ rfl)) (h8.lat (r14.at_ 7 _ rfl)) j10 hj10)), div_lo (x := quo4 a b c d) (Rat.mul_pos ha (Rat.inv_pos.2 hd)) (Rat.le_of_lt (ep_pos p)) (ep_small hp) hi9 (fun k hk => (hq9 k hk).1) 1 (by decide) rfl (fun k hk => (quo_between ha hab hc hcd k hk).1) (four_of e1 e2 e3 e4), div_hi (x := quo4 a b c d) (Rat.mul_pos hb (Rat.inv_pos.2 hc)) (Rat.le_of_lt (ep_pos p)) hj10 (fun k hk => (hq10 k hk).2) 2 (by decide) rfl (fun k hk => Rat.le_trans (Rat.le_of_lt (Rat.mul_pos ha (Rat.inv_pos.2 hd))) (quo_between ha hab hc hcd k hk).1) (fun k hk => (quo_between ha hab hc hcd k hk).2) (four_of e5 e6 e7 e8), r14.first⟩)
theorem form_same {y z e f : Int} : (cneg y = cneg z ∧ cexp y e = cexp z f ∧ cman y = cman z) ↔ Dv y e = Dv z f := by
 constructor
 · rintro ⟨h1, h2, h3⟩
   rw [Dv_form y e, Dv_form z f, h1, h2, h3]
 · intro h
   obtain ⟨h1, h2, h3⟩ := same_form h
   exact ⟨h3, h2, h1⟩
theorem dsame_q {u v : Value} {a b : Rat} {N M : Nat} {w : World} (h : CQ w u a N) (h' : CQ w v b M) (hN : N ≤ 67108864) (hT : TB w) :
 Calls Tryz.prog 12 #[u, v] w fun en w' => en = .returned (.bool (decide (a = b))) ∧ BL w w' := by
 obtain ⟨z, e, h1, rfl, h3⟩ := h
 obtain ⟨y, f, k1, rfl, k3⟩ := h'
 have l := bd_len h3; have lo := bd_lo h3; have hi := bd_hi h3
 have := same_any' u v z y e f w h1 k1 (by omega) (by omega) (by omega)
 rw [decide_eq_decide.2 form_same] at this
 exact this
def NarQ (p : Nat) (a b : Rat) : Prop := (a = 0 ∧ b = 0) ∨ (0 < a ∧ (b - a) * (2 : Rat) ^ (p : Int) ≤ a) ∨ (b < 0 ∧ (b - a) * (2 : Rat) ^ (p : Int) ≤ -b)
theorem nar_sgn {p : Nat} {a b : Rat} (h : NarQ p a b) (hab : a ≤ b) : sgnQ a = sgnQ b := by
 have h1 := sgnQ_cases a; have h2 := sgnQ_cases b
 rcases h with ⟨rfl, rfl⟩ | ⟨h, _⟩ | ⟨h, _⟩
 · rfl
 · grind
 · grind
theorem nar_pos {p : Nat} {a b : Rat} (h : NarQ p a b) (h0 : 0 < a) : (b - a) * (2 : Rat) ^ (p : Int) ≤ a := by
 rcases h with ⟨rfl, rfl⟩ | ⟨_, h⟩ | ⟨h, h'⟩
 · exact absurd h0 Rat.lt_irrefl
 · exact h
 · have : (0 : Rat) < (2 : Rat) ^ (p : Int) := Dv_pow_pos _
   have := Rat.mul_pos (show 0 < a - b by grind) this
   grind
theorem nar_neg {p : Nat} {a b : Rat} (h : NarQ p a b) (hab : a ≤ b) (h0 : a < 0) : (b - a) * (2 : Rat) ^ (p : Int) ≤ -b := by
 rcases h with ⟨rfl, rfl⟩ | ⟨h, _⟩ | ⟨_, h⟩
 · exact absurd h0 Rat.lt_irrefl
 · grind
 · exact h
theorem cmp_le {a b : Rat} (h : a ≤ b) : decide (cmpQ a b ≤ 0) = true := by rw [cmpQ_le]; exact decide_eq_true h
theorem sgn_zero0 {a b : Rat} (h : sgnQ a = sgnQ b) (h0 : (if (sgnQ a != sgnQ b) = true then true else sgnQ a == 0) = true) : (sgnQ a == sgnQ b) = true := by
 rw [h]; simp
theorem sgn_neg_of {a : Rat} (h : decide (sgnQ a < 0) = true) : a < 0 := by
 have h1 := sgnQ_cases a; have := of_decide_eq_true h; grind
theorem sgn_pos_of {a b : Rat} (h : decide (sgnQ a < 0) = false) (h0 : (if (sgnQ a != sgnQ b) = true then true else sgnQ a == 0) = false) : 0 < a := by
 have h1 := sgnQ_cases a; have := of_decide_eq_false h
 have h2 : sgnQ a ≠ 0 := by
  intro h3; rw [h3] at h0; revert h0; split <;> simp
 grind
def Fuf36_0 := [ig 0, ig 6, U, U, U, U, U, U, U, U, U, U, U, U, U, U, U]
def Fuf36_1 := fs Fuf36_0 [(2, ps 0 0), (3, ps 1 0), (4, lb false)]
def Buf36_2 := [bb 28 (i6 0), bb 28 (i6 6)]
def Ruf36_3 : Rg := ⟨3, 12, 0, Fuf36_0, Buf36_2, [pa 0 0, pa 1 0, pv (lb false) 0], []⟩
def Fuf36_4 := fs Fuf36_1 [(4, pk (vb 12) (vb 13) (lb false)), (5, ps 0 0), (6, dg 0), (7, ps 1 0), (8, dg 6), (9, vb 12), (10, vb 12), (11, gd true (vb 12) (ps 0 3)), (12, gd true (vb 12) (dg 3)), (13, gd true (vb 12) (ps 1 3)), (14, gd true (vb 12) (dg 9)), (15, gd true (vb 12) (vb 13)), (16, pk (vb 12) (vb 13) (lb false))]
def Ruf36_5 : Rg := ⟨13, 12, 2, Fuf36_1, Buf36_2, [pv (ps 0 0) 0, pl (dg 0) 0 0 0, pv (ps 1 0) 0, pl (dg 6) 0 1 0, pc (vb 12) 0 12 [dg 0, dg 6] 1, pv (vb 12) 1, ⟨ps 0 3, 1, [], .val, gd true (vb 12) (ps 0 3)⟩, ⟨dg 3, 1, [], .ld 0 3, gd true (vb 12) (dg 3)⟩, ⟨ps 1 3, 1, [], .val, gd true (vb 12) (ps 1 3)⟩, ⟨dg 9, 1, [], .ld 1 3, gd true (vb 12) (dg 9)⟩, ⟨vb 13, 1, [], .cl 1 12 [dg 3, dg 9] 1 [], gd true (vb 12) (vb 13)⟩, ⟨pk (vb 12) (vb 13) (lb false), 2, [], .pk, pk (vb 12) (vb 13) (lb false)⟩, pv (pk (vb 12) (vb 13) (lb false)) 2], [4, 10]⟩
theorem dsame_i {u v : Value} {a b c d : Rat} {N M : Nat} {w : World} (h : CI w u a b N) (h' : CI w v c d M) (hN : N ≤ 67108864) (hT : TB w) :
 Calls Tryz.prog 36 #[u, v] w fun en w' => ∃ r : Bool, en = .returned (.bool r) ∧ (r = true ↔ a = c ∧ b = d) ∧ BL w w' := by
 obtain ⟨b0, A0, n0, c0, x0, d0, B0, m0, e0, y0, rfl⟩ := h.ex
 obtain ⟨b9, A9, n9, c9, x9, d9, B9, m9, e9, y9, rfl⟩ := h'.ex
 refine fn_enter (u := 64) (fn := Tryz.f36) Tryz.func36 rfl Fuf36_0 [.bool b0, .slice A0 n0 c0, .int .i64 x0, .bool d0, .slice B0 m0 e0, .int .i64 y0, .bool b9, .slice A9 n9 c9, .int .i64 x9, .bool d9, .slice B9 m9 e9, .int .i64 y9] (by kernel_rfl) rfl (fun a0 S0 r0 => ?_)
 refine wp_seq (rk Ruf36_3 [] Fuf36_1 Buf36_2 S0 r0 ?_)
 intro _ _ _ r1 S1
 refine wp_seq (rk Ruf36_5 [] Fuf36_4 Buf36_2 S1 r1 ?_)
 intro _ _ r2 _
 refine (dsame_q (h.below r2.first).lo (h'.below r2.first).lo hN (tb hT r2)).mono ?_
 rintro _ V1 ⟨rfl, k1⟩
 refine ⟨[.bool (decide (a = c))], rfl, rfl, rfl, k1, ?_⟩
 refine ⟨fun c3 => ?_, fun c3 => ?_⟩
 · replace c3 := yv (b := (decide (a = c))) c3
   intro W4 g4 r4 _
   refine (dsame_q (h.below r4.first).hi (h'.below r4.first).hi hN (tb hT r4)).mono ?_
   rintro _ V2 ⟨rfl, k2⟩
   refine ⟨[.bool (decide (b = d))], rfl, rfl, rfl, k2, ?_⟩
   intro _ _ _ r5 S5
   exact rt S5 [.bool (if (decide (a = c)) then (decide (b = d)) else false)] (⟨_, rfl, by rw [c3, if_pos rfl]; exact ⟨fun h => ⟨of_decide_eq_true c3, of_decide_eq_true h⟩, fun h => decide_eq_true h.2⟩, r5.first⟩)
 · replace c3 := yn (b := (decide (a = c))) c3
   intro _ g4 W4 r4 S4
   exact rt S4 [.bool (if (decide (a = c)) then false else false)] (⟨_, rfl, by rw [c3, if_neg (by decide)]; exact ⟨fun h => absurd h (by decide), fun h => absurd h.1 (of_decide_eq_false c3)⟩, r4.first⟩)
def Fuf78_0 := [ig 0, vi 6, U, U, U, U, U, U, U, U, U, U, U, U, U, U, U, U, U, U, U, U, U, U, U, U, U, U, U, U, U, U, U, U, U, U, U, U, U, U, U, U, U, U, U, U, U, U, U, U, U, U, U, U]
def Fuf78_1 := fs Fuf78_0 [(2, ps 0 0), (4, lb false)]
def Buf78_2 := [bb 28 (i6 0)]
def Ruf78_3 : Rg := ⟨2, 7, 0, Fuf78_0, Buf78_2, [pa 0 0, pv (lb false) 0], []⟩
def Fuf78_4 := fs Fuf78_1 [(9, ig 0), (10, vb 7), (11, f1 noF (vb 7)), (12, f1 noF (vb 7)), (13, gd false (f1 noF (vb 7)) (vi 6)), (14, gd false (f1 noF (vb 7)) (bo .lss (vi 6) (li 0))), (15, pk (f1 noF (vb 7)) (lb true) (bo .lss (vi 6) (li 0)))]
def Ruf78_5 : Rg := ⟨7, 7, 1, Fuf78_1, Buf78_2, [pl (ig 0) 0 0 0, pc (vb 7) 0 45 [ig 0] 1, pv (f1 noF (vb 7)) 1, pv (f1 noF (vb 7)) 1, ⟨vi 6, 1, [], .val, gd false (f1 noF (vb 7)) (vi 6)⟩, ⟨bo .lss (vi 6) (li 0), 1, [], .val, gd false (f1 noF (vb 7)) (bo .lss (vi 6) (li 0))⟩, ⟨pk (f1 noF (vb 7)) (lb true) (bo .lss (vi 6) (li 0)), 1, [], .pk, pk (f1 noF (vb 7)) (lb true) (bo .lss (vi 6) (li 0))⟩], [1]⟩
def Fuf78_6 := fs Fuf78_4 [(5, vi 8), (6, vi 9), (16, ps 0 0), (17, dg 0), (18, vi 8), (19, ps 0 3), (20, dg 3), (21, vi 9)]
def Ruf78_7 : Rg := ⟨8, 8, 1, Fuf78_4, Buf78_2, [pv (ps 0 0) 0, pl (dg 0) 0 0 0, pc (vi 8) 0 25 [dg 0] 1, pv (ps 0 3) 0, pl (dg 3) 0 0 3, pc (vi 9) 1 25 [dg 3] 1, pv (vi 8) 2, pv (vi 9) 2], [2, 5]⟩
def Fuf78_8 := fs Fuf78_6 [(22, vi 8), (23, vi 9), (24, bo .neq (vi 8) (vi 9)), (25, bo .neq (vi 8) (vi 9)), (26, gd false (bo .neq (vi 8) (vi 9)) (vi 8)), (27, gd false (bo .neq (vi 8) (vi 9)) (bo .eql (vi 8) (li 0))), (28, pk (bo .neq (vi 8) (vi 9)) (lb true) (bo .eql (vi 8) (li 0)))]
def Ruf78_9 : Rg := ⟨7, 10, 1, Fuf78_6, Buf78_2, [pv (vi 8) 0, pv (vi 9) 0, pv (bo .neq (vi 8) (vi 9)) 0, pv (bo .neq (vi 8) (vi 9)) 0, ⟨vi 8, 0, [], .val, gd false (bo .neq (vi 8) (vi 9)) (vi 8)⟩, ⟨bo .eql (vi 8) (li 0), 0, [], .val, gd false (bo .neq (vi 8) (vi 9)) (bo .eql (vi 8) (li 0))⟩, ⟨pk (bo .neq (vi 8) (vi 9)) (lb true) (bo .eql (vi 8) (li 0)), 0, [], .pk, pk (bo .neq (vi 8) (vi 9)) (lb true) (bo .eql (vi 8) (li 0))⟩], []⟩
def Fuf78_10 := fs Fuf78_8 [(4, bo .eql (vi 8) (vi 9)), (29, vi 8), (30, vi 9), (31, bo .eql (vi 8) (vi 9))]
def Ruf78_11 : Rg := ⟨4, 10, 1, Fuf78_8, Buf78_2, [pv (vi 8) 0, pv (vi 9) 0, pv (bo .eql (vi 8) (vi 9)) 0, pv (bo .eql (vi 8) (vi 9)) 0], []⟩
def Fuf78_12 := fs Fuf78_8 [(7, ps 1 0), (32, ps 0 0), (33, dg 0)]
def Buf78_13 := [bb 28 (i6 0), bb 25 o3]
def Ruf78_14 : Rg := ⟨3, 10, 1, Fuf78_8, Buf78_13, [pv (ps 0 0) 0, pl (dg 0) 0 0 0, pa 1 0], []⟩
def Buf78_15 := [bb 28 (i6 0), bb 25 (d3 0)]
def Fuf78_16 := fs Fuf78_12 [(34, vi 8), (35, bo .lss (vi 8) (li 0))]
def Ruf78_17 : Rg := ⟨2, 10, 2, Fuf78_12, Buf78_15, [pv (vi 8) 0, pv (bo .lss (vi 8) (li 0)) 0], []⟩
def Fuf78_18 := fs Fuf78_16 [(36, ps 0 3), (37, dg 3), (38, dg 10)]
def Ruf78_19 : Rg := ⟨3, 10, 2, Fuf78_16, Buf78_15, [pv (ps 0 3) 0, pl (dg 3) 0 0 3, pc (dg 10) 0 93 [dg 3] 3], [2]⟩
def Buf78_20 := [bb 28 (i6 0), bb 25 (d3 10)]
def Fuf78_21 := fs Fuf78_18 [(8, ps 2 0), (39, ps 0 3), (40, dg 3), (41, ps 0 0), (42, dg 0), (43, dg 13)]
def Buf78_22 := [bb 28 (i6 0), bb 25 (d3 10), bb 25 o3]
def Ruf78_23 : Rg := ⟨6, 13, 2, Fuf78_18, Buf78_22, [pv (ps 0 3) 0, pl (dg 3) 0 0 3, pv (ps 0 0) 0, pl (dg 0) 0 0 0, pc (dg 13) 0 52 [dg 3, dg 0] 3, pa 2 0], [4]⟩
def Buf78_24 := [bb 28 (i6 0), bb 25 (d3 10), bb 25 (d3 13)]
def Fuf78_25 := fs Fuf78_21 [(44, dg 13), (45, vb 16)]
def Ruf78_26 : Rg := ⟨2, 16, 3, Fuf78_21, Buf78_24, [pl (dg 13) 0 2 0, pc (vb 16) 0 42 [dg 13] 1], [1]⟩
def Fuf78_27 := fs Fuf78_25 [(4, lb true)]
def Ruf78_28 : Rg := ⟨1, 17, 3, Fuf78_25, Buf78_24, [pv (lb true) 0], []⟩
def Fuf78_29 := fs Fuf78_25 [(46, vi 6), (47, bo .gtr (vi 6) (li 196608))]
def Ruf78_30 : Rg := ⟨2, 17, 3, Fuf78_25, Buf78_24, [pv (vi 6) 0, pv (bo .gtr (vi 6) (li 196608)) 0], []⟩
def Fuf78_31 := fs Fuf78_29 [(4, bo .leq (vi 20) (li 0)), (48, dg 13), (49, vi 6), (50, dg 17), (51, dg 10), (52, vi 20), (53, bo .leq (vi 20) (li 0))]
def Ruf78_32 : Rg := ⟨7, 17, 3, Fuf78_29, Buf78_24, [pl (dg 13) 0 2 0, pv (vi 6) 0, pc (dg 17) 0 114 [dg 13, vi 6] 3, pl (dg 10) 0 1 0, pc (vi 20) 1 26 [dg 17, dg 10] 1, pv (bo .leq (vi 20) (li 0)) 2, pv (bo .leq (vi 20) (li 0)) 2], [2, 4]⟩
def Fuf78_33 := fs Fuf78_16 [(8, ps 2 0), (39, ps 0 3), (40, dg 3), (41, ps 0 0), (42, dg 0), (43, dg 10)]
def Buf78_34 := [bb 28 (i6 0), bb 25 (d3 0), bb 25 o3]
def Ruf78_35 : Rg := ⟨6, 10, 2, Fuf78_16, Buf78_34, [pv (ps 0 3) 0, pl (dg 3) 0 0 3, pv (ps 0 0) 0, pl (dg 0) 0 0 0, pc (dg 10) 0 52 [dg 3, dg 0] 3, pa 2 0], [4]⟩
def Buf78_36 := [bb 28 (i6 0), bb 25 (d3 0), bb 25 (d3 10)]
def Fuf78_37 := fs Fuf78_33 [(44, dg 10), (45, vb 13)]
def Ruf78_38 : Rg := ⟨2, 13, 3, Fuf78_33, Buf78_36, [pl (dg 10) 0 2 0, pc (vb 13) 0 42 [dg 10] 1], [1]⟩
def Fuf78_39 := fs Fuf78_37 [(4, lb true)]
def Ruf78_40 : Rg := ⟨1, 14, 3, Fuf78_37, Buf78_36, [pv (lb true) 0], []⟩
def Fuf78_41 := fs Fuf78_37 [(46, vi 6), (47, bo .gtr (vi 6) (li 196608))]
def Ruf78_42 : Rg := ⟨2, 14, 3, Fuf78_37, Buf78_36, [pv (vi 6) 0, pv (bo .gtr (vi 6) (li 196608)) 0], []⟩
def Fuf78_43 := fs Fuf78_41 [(4, bo .leq (vi 17) (li 0)), (48, dg 10), (49, vi 6), (50, dg 14), (51, dg 0), (52, vi 17), (53, bo .leq (vi 17) (li 0))]
def Ruf78_44 : Rg := ⟨7, 14, 3, Fuf78_41, Buf78_36, [pl (dg 10) 0 2 0, pv (vi 6) 0, pc (dg 14) 0 114 [dg 10, vi 6] 3, pl (dg 0) 0 1 0, pc (vi 17) 1 26 [dg 14, dg 0] 1, pv (bo .leq (vi 17) (li 0)) 2, pv (bo .leq (vi 17) (li 0)) 2], [2, 4]⟩
theorem dnarrow_i {v : Value} {a b : Rat} {N p : Nat} {w : World} (h : CI w v a b N) (ha : FitQ a) (hb : FitQ b) (hab : a ≤ b) (hn : NarQ p a b) (hN : N ≤ 1000001) (hp : p ≤ 100000) (hT : TB w) :
 Calls Tryz.prog 78 #[v, .int .i64 (p : Int)] w fun en w' => en = .returned (.bool true) ∧ BL w w' := by
 obtain ⟨b0, A0, n0, c0, x0, d0, B0, m0, e0, y0, rfl⟩ := h.ex
 have hs := nar_sgn hn hab
 refine fn_enter (u := 64) (fn := Tryz.f78) Tryz.func78 rfl Fuf78_0 [.bool b0, .slice A0 n0 c0, .int .i64 x0, .bool d0, .slice B0 m0 e0, .int .i64 y0, .int .i64 (p : Int)] (by kernel_rfl) rfl (fun a0 S0 r0 => ?_)
 refine wp_seq (rk Ruf78_3 [] Fuf78_1 Buf78_2 S0 r0 ?_)
 intro _ _ _ r1 S1
 refine wp_seq ?_
 refine wp_seq (rk Ruf78_5 [] Fuf78_4 Buf78_2 S1 r1 ?_)
 intro _ _ r2 _
 refine (dright_i (h.below r2.first) (by omega) (tb hT r2)).mono ?_
 rintro _ V1 ⟨r, rfl, hr, k1⟩
 obtain rfl : r = true := hr.2 ⟨ha, hb, hab⟩
 refine ⟨[.bool true], rfl, rfl, rfl, k1, ?_⟩
 intro _ _ _ r3 S3
 refine wp_cond_split (t := if !true then true else decide ((p : Int) < 0)) (S3.cnd (by kernel_rfl)) (fun q1 => ?_) (fun q1 => ?_)
 · exact absurd q1 (by rw [decide_eq_false (by omega)]; decide)
 · refine wp_skip ?_
   refine wp_seq (rk Ruf78_7 [] Fuf78_6 Buf78_2 S3 r3 ?_)
   intro _ _ r4 _
   refine (dsign_q (h.below r4.first).lo (by omega)).mono ?_
   rintro _ V2 ⟨rfl, k2⟩
   refine ⟨[.int .i64 (sgnQ a)], rfl, rfl, rfl, k2, ?_⟩
   intro _ _ r5 _
   refine (dsign_q (h.below r5.first).hi (by omega)).mono ?_
   rintro _ V3 ⟨rfl, k3⟩
   refine ⟨[.int .i64 (sgnQ b)], rfl, rfl, rfl, k3, ?_⟩
   intro _ _ _ r6 S6
   refine wp_seq ?_
   refine wp_seq (rk Ruf78_9 [] Fuf78_8 Buf78_2 S6 r6 ?_)
   intro _ _ _ r7 S7
   refine wp_cond_split (t := if (sgnQ a) != (sgnQ b) then true else (sgnQ a) == 0) (S7.cnd (by kernel_rfl)) (fun q2 => ?_) (fun q2 => ?_)
   · refine wp_seq (rk Ruf78_11 [] Fuf78_10 Buf78_2 S7 r7 ?_)
     intro a8 g8 W8 r8 S8
     exact wp_ret (then_ret (ret_ok S8 [.bool ((sgnQ a) == (sgnQ b))] (by kernel_rfl) (⟨by rw [sgn_zero0 hs q2]; rfl, r8.first⟩)))
   · refine wp_skip ?_
     refine wp_seq (rk Ruf78_14 [.st 1 0 (d3 0)] Fuf78_12 Buf78_15 S7 r7 ?_)
     intro a8 g8 W8 r8 S8
     refine wp_seq ?_
     refine wp_seq (rk Ruf78_17 [] Fuf78_16 Buf78_15 S8 r8 ?_)
     intro _ _ _ r9 S9
     refine wp_cond_split (t := decide ((sgnQ a) < 0)) (S9.cnd (by kernel_rfl)) (fun q3 => ?_) (fun q3 => ?_)
     · refine rk Ruf78_19 [.st 1 0 (d3 10)] Fuf78_18 Buf78_20 S9 r9 ?_
       intro W10 g10 r10 _
       refine (dneg_q (h.below r10.first).hi (by omega) (tb hT r10)).mono ?_
       rintro _ V4 ⟨v, rfl, h4, k4⟩
       obtain ⟨b4, A4, n4, c4, x4, rfl⟩ := h4.ex
       replace h4 := h4.lower r10.fs
       refine ⟨[.bool b4, .slice A4 n4 c4, .int .i64 x4], rfl, rfl, rfl, k4, ?_⟩
       intro a11 g11 W11 r11 S11
       refine wp_seq (rk Ruf78_23 [.st 2 0 (d3 13)] Fuf78_21 Buf78_24 S11 r11 ?_)
       intro W12 g12 r12 _
       refine (dless_q (h.below r12.first).hi (h.below r12.first).lo (by omega) (tb hT r12)).mono ?_
       rintro _ V5 ⟨v, rfl, h5, k5⟩
       obtain ⟨b5, A5, n5, c5, x5, rfl⟩ := h5.ex
       replace h5 := h5.lower r12.fs
       refine ⟨[.bool b5, .slice A5 n5 c5, .int .i64 x5], rfl, rfl, rfl, k5, ?_⟩
       intro a13 g13 W13 r13 S13
       refine wp_seq ?_
       refine wp_seq (rk Ruf78_26 [] Fuf78_25 Buf78_24 S13 r13 ?_)
       intro W14 g14 r14 _
       refine (dzero_q (h5.lat (r14.at_ 4 _ rfl)).c (by omega)).mono ?_
       rintro _ V6 ⟨rfl, k6⟩
       refine ⟨[.bool (decide (b - a = 0))], rfl, rfl, rfl, k6, ?_⟩
       intro _ g15 W15 r15 S15
       refine wp_cond_split (t := (decide (b - a = 0))) (S15.cnd (by kernel_rfl)) (fun q4 => ?_) (fun q4 => ?_)
       · refine wp_seq (rk Ruf78_28 [] Fuf78_27 Buf78_24 S15 r15 ?_)
         intro a16 g16 W16 r16 S16
         exact wp_ret (then_ret (ret_ok S16 [.bool true] (by kernel_rfl) (⟨rfl, r16.first⟩)))
       · refine wp_skip ?_
         refine wp_seq ?_
         refine wp_seq (rk Ruf78_30 [] Fuf78_29 Buf78_24 S15 r15 ?_)
         intro a16 g16 W16 r16 S16
         refine wp_cond_split (t := decide ((p : Int) > 196608)) (S16.cnd (by kernel_rfl)) (fun q5 => ?_) (fun q5 => ?_)
         · exact absurd (of_decide_eq_true q5) (by omega)
         · refine wp_skip ?_
           refine wp_seq (rk Ruf78_32 [] Fuf78_31 Buf78_24 S16 r16 ?_)
           intro W17 g17 r17 _
           refine (dtwice_q (K := 100000) (p : Int) (h5.lat (r17.at_ 4 _ rfl)).c (by omega) (by omega) (by decide) (tb hT r17)).mono ?_
           rintro _ V7 ⟨v, rfl, h7, k7⟩
           obtain ⟨b7, A7, n7, c7, x7, rfl⟩ := h7.ex
           replace h7 := h7.lower r17.fs
           refine ⟨[.bool b7, .slice A7 n7 c7, .int .i64 x7], rfl, rfl, rfl, k7, ?_⟩
           intro _ _ r18 _
           refine (dorder_q (h7.lat (r18.at_ 6 _ rfl)).c (h4.lat (r18.at_ 3 _ rfl)).c (by omega) (tb hT r18)).mono ?_
           rintro _ V8 ⟨rfl, k8⟩
           refine ⟨[.int .i64 (cmpQ ((b - a) * (2 : Rat) ^ (p : Int)) (-b))], rfl, rfl, rfl, k8, ?_⟩
           intro _ _ _ r19 S19
           exact rt S19 [.bool (decide ((cmpQ ((b - a) * (2 : Rat) ^ (p : Int)) (-b)) ≤ 0))] (⟨by rw [cmp_le (nar_neg hn hab (sgn_neg_of q3))]; rfl, r19.first⟩)
     · refine wp_skip ?_
       refine wp_seq (rk Ruf78_35 [.st 2 0 (d3 10)] Fuf78_33 Buf78_36 S9 r9 ?_)
       intro W10 g10 r10 _
       refine (dless_q (h.below r10.first).hi (h.below r10.first).lo (by omega) (tb hT r10)).mono ?_
       rintro _ V9 ⟨v, rfl, h5, k9⟩
       obtain ⟨b9, A9, n9, c9, x9, rfl⟩ := h5.ex
       replace h5 := h5.lower r10.fs
       refine ⟨[.bool b9, .slice A9 n9 c9, .int .i64 x9], rfl, rfl, rfl, k9, ?_⟩
       intro a11 g11 W11 r11 S11
       refine wp_seq ?_
       refine wp_seq (rk Ruf78_38 [] Fuf78_37 Buf78_36 S11 r11 ?_)
       intro W12 g12 r12 _
       refine (dzero_q (h5.lat (r12.at_ 3 _ rfl)).c (by omega)).mono ?_
       rintro _ V10 ⟨rfl, k10⟩
       refine ⟨[.bool (decide (b - a = 0))], rfl, rfl, rfl, k10, ?_⟩
       intro a13 g13 W13 r13 S13
       refine wp_cond_split (t := (decide (b - a = 0))) (S13.cnd (by kernel_rfl)) (fun q6 => ?_) (fun q6 => ?_)
       · refine wp_seq (rk Ruf78_40 [] Fuf78_39 Buf78_36 S13 r13 ?_)
         intro a14 g14 W14 r14 S14
         exact wp_ret (then_ret (ret_ok S14 [.bool true] (by kernel_rfl) (⟨rfl, r14.first⟩)))
       · refine wp_skip ?_
         refine wp_seq ?_
         refine wp_seq (rk Ruf78_42 [] Fuf78_41 Buf78_36 S13 r13 ?_)
         intro a14 g14 W14 r14 S14
         refine wp_cond_split (t := decide ((p : Int) > 196608)) (S14.cnd (by kernel_rfl)) (fun q7 => ?_) (fun q7 => ?_)
         · exact absurd (of_decide_eq_true q7) (by omega)
         · refine wp_skip ?_
           refine wp_seq (rk Ruf78_44 [] Fuf78_43 Buf78_36 S14 r14 ?_)
           intro W15 g15 r15 _
           refine (dtwice_q (K := 100000) (p : Int) (h5.lat (r15.at_ 3 _ rfl)).c (by omega) (by omega) (by decide) (tb hT r15)).mono ?_
           rintro _ V11 ⟨v, rfl, h7, k11⟩
           obtain ⟨b11, A11, n11, c11, x11, rfl⟩ := h7.ex
           replace h7 := h7.lower r15.fs
           refine ⟨[.bool b11, .slice A11 n11 c11, .int .i64 x11], rfl, rfl, rfl, k11, ?_⟩
           intro W16 g16 r16 _
           refine (dorder_q (h7.lat (r16.at_ 5 _ rfl)).c (h.below r16.first).lo (by omega) (tb hT r16)).mono ?_
           rintro _ V12 ⟨rfl, k12⟩
           refine ⟨[.int .i64 (cmpQ ((b - a) * (2 : Rat) ^ (p : Int)) (a))], rfl, rfl, rfl, k12, ?_⟩
           intro _ g17 W17 r17 S17
           exact rt S17 [.bool (decide ((cmpQ ((b - a) * (2 : Rat) ^ (p : Int)) (a)) ≤ 0))] (⟨by rw [cmp_le (nar_pos hn (sgn_pos_of q3 q2))]; rfl, r17.first⟩)
theorem dt_step {u T r d e : Nat} {t a : Rat} (hu : 0 < u) (hf : Fi u (T, e) t) (h1 : (r : Rat) ≤ a * (u : Rat)) (h2 : a * (u : Rat) ≤ (r : Rat) + 1) (hc : T + e * (r + 1) ≤ u) : Fi u (T * r / u / (d + 1), 2) (t * a * ((d + 1 : Nat) : Rat)⁻¹) := by
 have hx : Fi u (r, 1) a := ⟨h1, h2⟩
 refine ⟨(Fi.short d (Fi.mul hu hf hx)).1, ?_⟩
 have hur : (0 : Rat) < (u : Rat) := upos hu
 have dp : (0 : Rat) < ((d + 1 : Nat) : Rat) := upos (Nat.succ_pos d)
 have en : ((d + 1 : Nat) : Rat) * ((d + 1 : Nat) : Rat)⁻¹ = 1 := Rat.mul_inv_cancel _ (by grind)
 have hnat : (T + e) * (r + 1) ≤ (T * r / u / (d + 1) + 2) * (d + 1) * u := by
  have a1 := Nat.div_add_mod (T * r) u
  have a2 := Nat.mod_lt (T * r) hu
  generalize T * r / u = F at *
  have b1 := Nat.div_add_mod F (d + 1)
  have b2 := Nat.mod_lt F (show 0 < d + 1 by omega)
  generalize F / (d + 1) = Q at *
  have c1 : F + 2 ≤ (Q + 2) * (d + 1) := by
   have : (Q + 2) * (d + 1) = (d + 1) * Q + 2 * (d + 1) := by rw [Nat.add_mul, Nat.mul_comm]
   omega
  have c2 := Nat.mul_le_mul_right u c1
  have c3 : (T + e) * (r + 1) = T * r + (T + e * (r + 1)) := by
   rw [Nat.add_mul, Nat.mul_add, Nat.mul_one]; omega
  have c4 : (F + 2) * u = u * F + 2 * u := by rw [Nat.add_mul, Nat.mul_comm]
  omega
 have hr := Rat.natCast_le_natCast.2 hnat
 have ht0 : (0 : Rat) ≤ t * (u : Rat) := Rat.le_trans Rat.natCast_nonneg hf.1
 have hm := mul_le hf.2 h2 ht0 (show (0 : Rat) ≤ (r : Rat) + 1 by have : (0 : Rat) ≤ (r : Rat) := Rat.natCast_nonneg; grind)
 rw [Rat.natCast_mul, Rat.natCast_add, Rat.natCast_add r, Rat.natCast_mul, Rat.natCast_mul, Rat.natCast_add (T * r / u / (d + 1)), show ((1 : Nat) : Rat) = 1 from rfl, show ((2 : Nat) : Rat) = 2 from rfl] at hr
 refine Rat.le_of_mul_le_mul_right ?_ (Rat.mul_pos dp hur)
 show t * a * ((d + 1 : Nat) : Rat)⁻¹ * (u : Rat) * (((d + 1 : Nat) : Rat) * (u : Rat)) ≤ (((T * r / u / (d + 1) : Nat) : Rat) + ((2 : Nat) : Rat)) * (((d + 1 : Nat) : Rat) * (u : Rat))
 have el : t * a * ((d + 1 : Nat) : Rat)⁻¹ * (u : Rat) * (((d + 1 : Nat) : Rat) * (u : Rat)) = t * (u : Rat) * (a * (u : Rat)) := by
  generalize ((d + 1 : Nat) : Rat)⁻¹ = D' at *
  generalize ((d + 1 : Nat) : Rat) = D at *
  grind
 rw [el, show ((2 : Nat) : Rat) = 2 from rfl]
 have e2 : ((d : Nat) : Rat) + 1 = ((d + 1 : Nat) : Rat) := by rw [Rat.natCast_add]; rfl
 have er : (((T * r / u / (d + 1) : Nat) : Rat) + 2) * (((d + 1 : Nat) : Rat) * (u : Rat)) = (((T * r / u / (d + 1) : Nat) : Rat) + 2) * ((d : Rat) + 1) * (u : Rat) := by rw [e2]; grind
 rw [er]
 exact Rat.le_trans hm (by first | exact hr | (rw [Rat.natCast_add d] at hr; exact hr))
def dE : Nat → Nat | 0 => 0 | _ + 1 => 2
theorem dt_fi {u r m : Nat} {a : Rat} (hu : 256 ≤ u) (hr : 256 * r ≤ u) (h1 : (r : Rat) ≤ a * (u : Rat)) (h2 : a * (u : Rat) ≤ (r : Rat) + 1) : ∀ k, Fi u ((teF u (r, 0) m k).1, dE k) (tm m a k)
 | 0 => Fi.one u
 | k + 1 => by
   have ih := dt_fi hu hr h1 h2 (m := m) k
   have := dt_step (d := k + m) (show 0 < u by omega) ih h1 h2 (by
    cases k with
    | zero => show (u, 0).1 + 0 * (r + 1) ≤ u; simp
    | succ k =>
      have := te_small hu m (x := (r, 0)) hr (Nat.zero_le _) k
      show (teF u (r, 0) m (k + 1)).1 + 2 * (r + 1) ≤ u
      omega)
   rw [show k + m + 1 = k + 1 + m by omega] at this
   exact this
theorem ds_fi {u r m : Nat} {a : Rat} (hu : 256 ≤ u) (hr : 256 * r ≤ u) (h1 : (r : Rat) ≤ a * (u : Rat)) (h2 : a * (u : Rat) ≤ (r : Rat) + 1) : ∀ n, Fi u ((seF u (r, 0) m n).1, 2 * (n - 1)) (sm m a n)
 | 0 => Fi.zero u
 | n + 1 => by
   have := Fi.add (ds_fi hu hr h1 h2 (m := m) n) (dt_fi hu hr h1 h2 (m := m) n)
   have e : 2 * (n - 1) + dE n = 2 * (n + 1 - 1) := by cases n <;> simp [dE]; omega
   rw [← e]
   exact this
theorem dsmall_encl {w r m n : Nat} {a : Rat} (hw : 8 ≤ w) (hr : 256 * r ≤ 2 ^ w) (h1 : (r : Rat) ≤ a * ((2 ^ w : Nat) : Rat)) (h2 : a * ((2 ^ w : Nat) : Rat) ≤ (r : Rat) + 1) (h0 : 0 ≤ a) (ha : 2 * a ≤ 1) (hn0 : 0 < n) (hn : (teF (2 ^ w) (r, 0) m n).1 = 0) :
 In (Dv (((seF (2 ^ w) (r, 0) m n).1 : Nat) : Int) (-(w : Int))) (Dv (((seF (2 ^ w) (r, 0) m n).1 + (2 * n + 8) : Nat) : Int) (-(w : Int))) (sm m a) := by
 have hu := pow256 hw
 have hu0 : 0 < 2 ^ w := Nat.two_pow_pos w
 have hs := ds_fi hu hr h1 h2 (m := m) n
 have ht := dt_fi hu hr h1 h2 (m := m) n
 rw [hn] at ht
 rw [Dv_down, Dv_down]
 refine In.sum (n := n) h0 ha (le_of_u hu0 hs.1) (ge_of_u hu0 ?_)
 have q1 := hs.2
 have q2 := ht.2
 obtain ⟨j, rfl⟩ : ∃ j, n = j + 1 := ⟨n - 1, by omega⟩
 have q3 : (2 * (j + 1 - 1) : Nat) + 2 * dE (j + 1) ≤ 2 * (j + 1) + 8 := by show _ + 2 * 2 ≤ _; omega
 have q3 := Rat.natCast_le_natCast.2 q3
 rw [Rat.natCast_add, Rat.natCast_mul 2 (dE (j + 1))] at q3
 rw [Rat.natCast_add]
 rw [show ((2 : Nat) : Rat) = 2 from rfl] at q3
 have q2' : tm m a (j + 1) * ((2 ^ w : Nat) : Rat) ≤ (dE (j + 1) : Rat) := by
  have : (((0 : Nat) : Rat)) + ((dE (j + 1) : Nat) : Rat) = (dE (j + 1) : Rat) := by rw [show ((0 : Nat) : Rat) = 0 from rfl]; grind
  rw [← this]; exact q2
 have q1' : sm m a (j + 1) * ((2 ^ w : Nat) : Rat) ≤ ((seF (2 ^ w) (r, 0) m (j + 1)).1 : Rat) + ((2 * (j + 1 - 1) : Nat) : Rat) := q1
 clear q1 q2 hs ht
 grind
theorem dby_n {v : Value} {a d : Nat} {w : World} (h : CN w v a) (hd : 0 < d) (hd2 : d < 4294967296) (ha : bl a ≤ 1073741824) :
 Calls Tryz.prog 127 #[v, .int .u64 (d : Int)] w fun e w' => ∃ v, e = .returned v ∧ PN w' w.heap.size v (a / d) ∧ BL w w' := by
 obtain ⟨A, n, c, rfl, h1, rfl, h3⟩ := h
 have hl := len_le (K := 67108864) (m := a) (by omega)
 have := by_any (limbs a) A _ c d rfl w h1 h3 (wf_limbs _) (by omega) hd hd2
 rw [nv_limbs] at this
 exact this.mono (by rintro e w' ⟨v, rfl, h, hb⟩; exact ⟨v, rfl, PL.of_R h, hb⟩)
theorem te_zero_iff {u r m n k : Nat} (hn : (teF u (r, 0) m n).1 = 0) (hlt : ∀ k, 0 < k → k < n → (teF u (r, 0) m k).1 ≠ 0) (hu : 0 < u) (hk : k ≤ n) : decide ((((limbs (teF u (r, 0) m k).1).length : Nat) : Int) > 0) = decide (k ≠ n) := by
 rw [len_pos]
 by_cases h : k = n
 · rw [h, hn, decide_eq_false (by simp), decide_eq_false (by simp)]
 · rw [decide_eq_true h]
   refine decide_eq_true ?_
   by_cases h0 : k = 0
   · subst h0; show u ≠ 0; omega
   · exact hlt k (by omega) (by omega)
theorem se_bl {q r : Nat} (hq : 8 ≤ q) (hr : 256 * r ≤ 2 ^ q) (m n : Nat) : bl (seF (2 ^ q) (r, 0) m n).1 ≤ q + 2 := by
 refine bl_2u ?_
 have := se_top (pow256 hq) m (x := (r, 0)) hr (Nat.zero_le _) n
 omega
def Fug86_0 := [vs 0, vi 1, vu 2, U, U, U, U, U, U, U, U, U, U, U, U, U, U, U, U, U, U, U, U, U, U, U, U, U, U, U, U, U, U, U, U, U, U, U, U, U, U, U, U, U, U]
def Fug86_1 := fs Fug86_0 [(6, lz), (7, lz)]
def Rug86_2 : Rg := ⟨2, 3, 0, Fug86_0, [], [pv (lz) 0, pv (lz) 0], []⟩
def Fug86_3 := fs Fug86_1 [(8, vs 4), (13, vs 3), (14, vi 1), (15, vs 4)]
def Rug86_4 : Rg := ⟨4, 3, 0, Fug86_1, [], [pc (vs 3) 0 47 [lu 1] 1, pv (vi 1) 0, pc (vs 4) 1 53 [vs 3, vi 1] 1, pv (vs 4) 2], [0, 2]⟩
def Fug86_5 := fs Fug86_3 [(9, vs 4), (16, vs 4)]
def Rug86_6 : Rg := ⟨2, 5, 0, Fug86_3, [], [pv (vs 4) 0, pv (vs 4) 0], []⟩
def Fug86_7 := fs Fug86_5 [(10, lu 0)]
def Rug86_8 : Rg := ⟨1, 5, 0, Fug86_5, [], [pv (lu 0) 0], []⟩
def Lug86_9 (jj1 : List Value) := [vs 0, vi 1, vu 2, U, U, U, lz, lz, vs 5, vs 6, vu 7, jw jj1 0, jw jj1 1, vs 3, vi 1, vs 4, vs 4, jw jj1 2, jw jj1 3, jw jj1 4, jw jj1 5, jw jj1 6, jw jj1 7, jw jj1 8, jw jj1 9, jw jj1 10, jw jj1 11, jw jj1 12, jw jj1 13, jw jj1 14, jw jj1 15, jw jj1 16, jw jj1 17, jw jj1 18, jw jj1 19, jw jj1 20, jw jj1 21, jw jj1 22, U, U, U, U, U, U, U]
def Jug86_10 : List Nat := [11, 12, 17, 18, 19, 20, 21, 22, 23, 24, 25, 26, 27, 28, 29, 30, 31, 32, 33, 34, 35, 36, 37]
def Fug86_11 (jj1 : List Value) := fs (Lug86_9 jj1) [(17, vs 5), (18, f1 lnF (vs 5)), (19, bo .gtr (f1 lnF (vs 5)) (li 0))]
def Rug86_12 (jj1 : List Value) : Rg := ⟨3, 8, 0, (Lug86_9 jj1), [], [pv (vs 5) 0, pv (f1 lnF (vs 5)) 0, pv (bo .gtr (f1 lnF (vs 5)) (li 0)) 0], []⟩
def Fug86_13 (jj1 : List Value) := fs (Fug86_11 jj1) [(10, bo .add (vu 7) (lu 1)), (20, vu 7), (21, bo .add (vu 7) (lu 1))]
def Rug86_14 (jj1 : List Value) : Rg := ⟨2, 8, 0, (Fug86_11 jj1), [], [pv (vu 7) 0, pv (bo .add (vu 7) (lu 1)) 0], []⟩
def Fug86_15 (jj1 : List Value) := fs (Fug86_13 jj1) [(11, vs 9), (12, vb 10), (22, tu [vs 9, vb 10]), (23, vs 5), (24, vs 0), (25, vs 8), (26, vi 1), (27, tu [vs 9, vb 10]), (28, vs 9), (29, vb 10)]
def Rug86_16 (jj1 : List Value) : Rg := ⟨10, 8, 0, (Fug86_13 jj1), [], [pv (vs 5) 0, pv (vs 0) 0, pc (vs 8) 0 107 [vs 5, vs 0] 1, pv (vi 1) 0, pc (tu [vs 9, vb 10]) 1 92 [vs 8, vi 1] 2, pv (tu [vs 9, vb 10]) 2, pv (vs 9) 2, pv (vb 10) 2, pv (vs 9) 2, pv (vb 10) 2], [2, 4]⟩
def Fug86_17 (jj1 : List Value) := fs (Fug86_15 jj1) [(8, vs 11), (30, vs 9), (31, bo .add (vu 7) (lu 1)), (32, vu 2), (33, bo .add (bo .add (vu 7) (lu 1)) (vu 2)), (34, vs 11)]
def Rug86_18 (jj1 : List Value) : Rg := ⟨6, 11, 0, (Fug86_15 jj1), [], [pv (vs 9) 0, pv (bo .add (vu 7) (lu 1)) 0, pv (vu 2) 0, pv (bo .add (bo .add (vu 7) (lu 1)) (vu 2)) 0, pc (vs 11) 0 127 [vs 9, bo .add (bo .add (vu 7) (lu 1)) (vu 2)] 1, pv (vs 11) 1], [4]⟩
def Fug86_19 (jj1 : List Value) := fs (Fug86_17 jj1) [(9, vs 12), (35, vs 6), (36, vs 11), (37, vs 12)]
def Rug86_20 (jj1 : List Value) : Rg := ⟨3, 12, 0, (Fug86_17 jj1), [], [pv (vs 6) 0, pv (vs 11) 0, pc (vs 12) 0 54 [vs 6, vs 11] 1], [2]⟩
def Fug86_21 (jj1 : List Value) := fs (Fug86_11 jj1) [(6, vs 6), (7, vs 9), (38, vs 6), (39, vs 6), (40, vu 7), (41, bo .mul (lu 2) (vu 7)), (42, bo .add (bo .mul (lu 2) (vu 7)) (lu 8)), (43, vs 8), (44, vs 9)]
def Rug86_22 (jj1 : List Value) : Rg := ⟨9, 8, 0, (Fug86_11 jj1), [], [pv (vs 6) 0, pv (vs 6) 0, pv (vu 7) 0, pv (bo .mul (lu 2) (vu 7)) 0, pv (bo .add (bo .mul (lu 2) (vu 7)) (lu 8)) 0, pc (vs 8) 0 47 [bo .add (bo .mul (lu 2) (vu 7)) (lu 8)] 1, pc (vs 9) 1 54 [vs 6, vs 8] 1, pv (vs 6) 2, pv (vs 9) 2], [5, 6]⟩
theorem dsmall_n {v : Value} {r q m : Nat} {w : World} (h : CN w v r) (hr : 256 * r ≤ 2 ^ q) (hq1 : 8 ≤ q) (hq2 : q ≤ 40000) (hm : m ≤ 1) (hT : TB w) :
 Calls Tryz.prog 86 #[v, .int .i64 (q : Int), .int .u64 (m : Int)] w fun en w' => ∃ v1 v2 n, en = .returned (.tuple #[v1, v2]) ∧ PN w' w.heap.size v1 (seF (2 ^ q) (r, 0) m n).1 ∧ PN w' w.heap.size v2 ((seF (2 ^ q) (r, 0) m n).1 + (2 * n + 8)) ∧ 0 < n ∧ 8 * n ≤ q + 8 ∧ (teF (2 ^ q) (r, 0) m n).1 = 0 ∧ BL w w' := by
 obtain ⟨A0, n0, c0, rfl⟩ := h.ex
 obtain ⟨n, n1, n2, n3, n4⟩ := te_end hq1 m (x := (r, 0)) hr (Nat.zero_le _)
 have hu := pow256 hq1
 refine fn_enter (u := 64) (fn := Tryz.f86) Tryz.func86 rfl Fug86_0 [.slice A0 n0 c0, .int .i64 (q : Int), .int .u64 (m : Int)] (by kernel_rfl) rfl (fun a0 S0 r0 => ?_)
 refine wp_seq (rk Rug86_2 [] Fug86_1 [] S0 r0 ?_)
 intro _ _ _ r1 S1
 refine wp_seq (rk Rug86_4 [] Fug86_3 [] S1 r1 ?_)
 intro _ _ r2 _
 refine (of_d 1 (by decide) _).mono ?_
 rintro _ V1 ⟨v, rfl, h1, k1⟩
 obtain ⟨A1, n1, c1, rfl⟩ := h1.ex
 replace h1 := h1.lower r2.fs
 refine ⟨[.slice A1 n1 c1], rfl, rfl, rfl, k1, ?_⟩
 intro _ _ r3 _
 refine (shl_d _ q rfl (h1.lat (r3.at_ 0 _ rfl)).c (by decide) (by omega)).mono ?_
 rintro _ V2 ⟨v, rfl, h2, k2⟩
 obtain ⟨A2, n2, c2, rfl⟩ := h2.ex
 replace h2 := h2.lower r3.fs
 refine ⟨[.slice A2 n2 c2], rfl, rfl, rfl, k2, ?_⟩
 intro _ _ _ r4 S4
 refine wp_seq (rk Rug86_6 [] Fug86_5 [] S4 r4 ?_)
 intro _ _ _ r5 S5
 refine wp_seq (rk Rug86_8 [] Fug86_7 [] S5 r5 ?_)
 intro _ _ _ r6 S6
 refine wp_seq ?_
 refine wp_block ?_
 refine wp_loop_n (fun nn aa WW => ∃ (jj1 : List Value) (tA sA : Option Addr) (tn tc sn sc k : Nat) (kk : Int) (gg : Nat → Nat), nn = n - k ∧ BL w WW ∧ St w (Lug86_9 jj1) [] [.slice A0 n0 c0, .int .i64 (q : Int), .int .u64 (m : Int), .slice A1 n1 c1, .slice A2 n2 c2, .slice tA tn tc, .slice sA sn sc, .int .u64 kk] gg aa WW ∧ PN WW w.heap.size (.slice tA tn tc) (teF (2 ^ q) (r, 0) m k).1 ∧ PN WW w.heap.size (.slice sA sn sc) (seF (2 ^ q) (r, 0) m (k + 1)).1 ∧ k ≤ n ∧ kk = (k : Int)) ⟨jv S6 Jug86_10, _, _, _, _, _, _, 0, _, _, rfl, r6.first, St.to S6 [] (by kernel_rfl) (by kernel_rfl) (by decide) rfl, (show PN _ _ _ (2 ^ q) by have := (h2.lat (r6.at_ 1 _ rfl)); rwa [Nat.one_mul] at this), (show PN _ _ _ (0 + 2 ^ q) by have := (h2.lat (r6.at_ 1 _ rfl)); rwa [Nat.one_mul, ← Nat.zero_add (2 ^ q)] at this), Nat.zero_le _, rfl⟩ ?_
 rintro _ a7 W7 ⟨jj1, tA, sA, tn, tc, sn, sc, k, kk, g7, rfl, b7, S7, f1, f2, f3, f4⟩
 have r7 : Reach 64 w [W7] W7 := .of_below b7
 subst f4
 refine wp_seq ?_
 refine wp_seq (rk (Rug86_12 jj1) [] (Fug86_11 jj1) [] S7 r7 ?_)
 intro _ _ _ r8 S8
 refine wp_cond_split (t := decide (((tn : Nat) : Int) > 0)) (S8.cnd (by kernel_rfl)) (fun q1 => ?_) (fun q1 => ?_)
 · have hkn : k ≠ n := by rw [f1.len, te_zero_iff n3 n4 (by omega) f3] at q1; exact of_decide_eq_true q1
   have hw1 : IntKind.u64.wrap ((k : Int) + 1) = ((k + 1 : Nat) : Int) := by rw [u64_id (by omega) (by omega)]; rfl
   have hw2 : IntKind.u64.wrap (IntKind.u64.wrap ((k : Int) + 1) + (m : Int)) = ((k + 1 + m : Nat) : Int) := by rw [hw1, u64_id (by omega) (by omega)]; rfl
   have hb0 := te_bl hq1 hr (Nat.zero_le _) m k (x := (r, 0))
   have hbr : bl r ≤ q + 2 := bl_2u (by omega)
   have hb1 : bl (teF (2 ^ q) (r, 0) m k).1 ≤ 4294967296 := by omega
   have hb2 : bl r ≤ 4294967296 := by omega
   have hb3 := bl_mul hb0 hbr
   have hb4 : bl (seF (2 ^ q) (r, 0) m (k + 1)).1 ≤ 4294967296 := by have := se_bl hq1 hr m (k + 1); omega
   have hb5 : bl ((teF (2 ^ q) (r, 0) m k).1 * r / 2 ^ q / (k + 1 + m)) ≤ 4294967296 := by have := bl_div (d := k + 1 + m) (bl_div (d := 2 ^ q) hb3); omega
   refine wp_skip ?_
   refine wp_block ?_
   refine wp_seq (rk (Rug86_14 jj1) [.mv (bo .add (vu 7) (lu 1))] (Fug86_13 jj1) [] S8 r8 ?_)
   intro _ g9 W9 r9 S9
   refine wp_seq (rk (Rug86_16 jj1) [] (Fug86_15 jj1) [] S9 r9 ?_)
   intro W10 g10 r10 _
   refine (mul_d (f1.lat (r10.at_ 0 _ rfl)).c (h.below r10.first) hb1 hb2).mono ?_
   rintro _ V3 ⟨v, rfl, h3, k3⟩
   obtain ⟨A3, n3, c3, rfl⟩ := h3.ex
   replace h3 := h3.lower r10.fs
   refine ⟨[.slice A3 n3 c3], rfl, rfl, rfl, k3, ?_⟩
   intro W11 g11 r11 _
   refine (shr_d _ q rfl (h3.lat (r11.at_ 1 _ rfl)).c (by omega) (by omega)).mono ?_
   rintro _ V4 ⟨v, rfl, h4, k4⟩
   obtain ⟨A4, n4, c4, rfl⟩ := h4.ex
   replace h4 := h4.lower r11.fs
   refine ⟨[.slice A4 n4 c4, .bool ((teF (2 ^ q) (r, 0) m k).1 * r % 2 ^ q != 0)], rfl, rfl, rfl, k4, ?_⟩
   intro _ _ _ r12 S12
   refine wp_seq (rk (Rug86_18 jj1) [] (Fug86_17 jj1) [] S12 r12 ?_)
   intro W13 _ r13 _
   show Calls Tryz.prog 127 #[.slice A4 n4 c4, .int .u64 (IntKind.u64.wrap ((IntKind.u64.wrap ((k : Int) + 1)) + (m : Int)))] W13 _
   rw [hw2]
   refine (dby_n (d := k + 1 + m) (h4.lat (r13.at_ 2 _ rfl)).c (by omega) (by omega) (by have := bl_div (d := 2 ^ q) hb3; omega)).mono ?_
   rintro _ V5 ⟨v, rfl, h5, k5⟩
   obtain ⟨A5, n5, c5, rfl⟩ := h5.ex
   replace h5 := h5.lower r13.fs
   refine ⟨[.slice A5 n5 c5], rfl, rfl, rfl, k5, ?_⟩
   intro _ _ _ r14 S14
   refine rk (Rug86_20 jj1) [.mv (vs 12)] (Fug86_19 jj1) [] S14 r14 ?_
   intro _ _ r15 _
   refine (add_d (f2.lat (r15.at_ 0 _ rfl)).c (h5.lat (r15.at_ 3 _ rfl)).c hb4 hb5).mono ?_
   rintro _ V6 ⟨v, rfl, h6, k6⟩
   obtain ⟨A6, n6, c6, rfl⟩ := h6.ex
   replace h6 := h6.lower r15.fs
   refine ⟨[.slice A6 n6 c6], rfl, rfl, rfl, k6, ?_⟩
   intro _ _ _ r16 S16
   exact ⟨_, (by omega), ⟨jv S16 Jug86_10, _, _, _, _, _, _, k + 1, _, _, rfl, r16.first, St.to S16 [] (by kernel_rfl) (by kernel_rfl) (by decide) rfl, (h5.lat (r16.at_ 3 _ rfl)), (h6.lat (r16.at_ 4 _ rfl)), (by omega), hw1⟩⟩
 · have hkn : k = n := by rw [f1.len, te_zero_iff n3 n4 (by omega) f3] at q1; have := of_decide_eq_false q1; omega
   subst hkn
   have hw3 : IntKind.u64.wrap (IntKind.u64.wrap (2 * (k : Int)) + 8) = ((2 * k + 8 : Nat) : Int) := by rw [u64_id (x := 2 * (k : Int)) (by omega) (by omega), u64_id (by omega) (by omega)]; omega
   have hS : (seF (2 ^ q) (r, 0) m (k + 1)).1 = (seF (2 ^ q) (r, 0) m k).1 := by show (seF (2 ^ q) (r, 0) m k).1 + (teF (2 ^ q) (r, 0) m k).1 = _; rw [n3]; rfl
   have hb4 := se_bl hq1 hr m (k + 1)
   have hb5 := bl64 (x := 2 * k + 8) (by omega)
   refine wp_exit (then_exit (then_exit (exit_in ?_)))
   refine wp_seq (rk (Rug86_22 jj1) [] (Fug86_21 jj1) [] S8 r8 ?_)
   intro W9 g9 r9 _
   show Calls Tryz.prog 47 #[.int .u64 (IntKind.u64.wrap ((IntKind.u64.wrap (2 * (k : Int))) + 8))] W9 _
   rw [hw3]
   refine (of_d (2 * k + 8) (by omega) _).mono ?_
   rintro _ V7 ⟨v, rfl, h7, k7⟩
   obtain ⟨A7, n7, c7, rfl⟩ := h7.ex
   replace h7 := h7.lower r9.fs
   refine ⟨[.slice A7 n7 c7], rfl, rfl, rfl, k7, ?_⟩
   intro W10 g10 r10 _
   refine (add_d (f2.lat (r10.at_ 0 _ rfl)).c (h7.lat (r10.at_ 1 _ rfl)).c (by omega) (by omega)).mono ?_
   rintro _ V8 ⟨v, rfl, h8, k8⟩
   obtain ⟨A8, n8, c8, rfl⟩ := h8.ex
   replace h8 := h8.lower r10.fs
   refine ⟨[.slice A8 n8 c8], rfl, rfl, rfl, k8, ?_⟩
   intro _ g11 W11 r11 S11
   exact rt S11 [.slice sA sn sc, .slice A8 n8 c8] (⟨_, _, k, rfl, by rw [← hS]; exact (f2.lat (r11.at_ 0 _ rfl)), by rw [← hS]; exact (h8.lat (r11.at_ 2 _ rfl)), n1, n2, n3, r11.first⟩)
theorem flo_up (m k : Nat) : ((m * 2 ^ k : Nat) : Rat) = (m : Rat) * (2 : Rat) ^ (k : Int) := by rw [two_w, Rat.natCast_mul]
theorem dleft_f {v : Value} {m : Nat} {w : World} (n : Int) (h : CN w v m) (hm : bl m ≤ 4294967296) (hn : n.natAbs ≤ 4294967296) (hT : TB w) :
 Calls Tryz.prog 128 #[v, .int .i64 n] w fun e w' => ∃ v t M, e = .returned (.tuple #[v, .bool t]) ∧ PN w' w.heap.size v M ∧ (M : Rat) ≤ (m : Rat) * (2 : Rat) ^ n ∧ (m : Rat) * (2 : Rat) ^ n ≤ (M : Rat) + 1 ∧ BL w w' := by
 by_cases h0 : 0 ≤ n
 · refine (dleft_n n n.toNat (by omega) h hm (by omega) hT).mono ?_
   rintro _ w' ⟨v, rfl, h1, hb⟩
   refine ⟨v, _, _, rfl, h1, ?_, ?_, hb⟩ <;> rw [flo_up, Int.toNat_of_nonneg h0]
   · exact Rat.le_refl
   · generalize (m : Rat) * (2 : Rat) ^ n = x; grind
 · obtain ⟨k, hk⟩ : ∃ k : Nat, n = -(k : Int) := ⟨n.natAbs, by omega⟩
   refine (dleft_r n k hk (by omega) h hm (by omega) hT).mono ?_
   rintro _ w' ⟨v, rfl, h1, hb⟩
   have := @flo_nat m k
   refine ⟨v, _, _, rfl, h1, ?_, ?_, hb⟩ <;> rw [hk]
   · exact this.1
   · exact Rat.le_of_lt this.2.1
def Fuh87_0 := [dg 0, vi 3, U, U, U, U, U, U, U, U, U, U, U, U, U, U, U, U, U, U, U]
def Fuh87_1 := fs Fuh87_0 [(2, ps 0 0), (4, lz)]
def Buh87_2 := [bb 25 (d3 0)]
def Ruh87_3 : Rg := ⟨2, 4, 0, Fuh87_0, Buh87_2, [pa 0 0, pv (lz) 0], []⟩
def Fuh87_4 := fs Fuh87_1 [(5, ps 1 0), (8, dg 0), (9, dg 4)]
def Buh87_5 := [bb 25 (d3 0), bb 25 o3]
def Ruh87_6 : Rg := ⟨3, 4, 1, Fuh87_1, Buh87_5, [pl (dg 0) 0 0 0, pc (dg 4) 0 44 [dg 0] 3, pa 1 0], [1]⟩
def Buh87_7 := [bb 25 (d3 0), bb 25 (d3 4)]
def Fuh87_8 := fs Fuh87_4 [(6, vs 7), (7, vb 8), (10, tu [vs 7, vb 8]), (11, ps 1 1), (12, vs 5), (13, ps 1 2), (14, vi 6), (15, vi 3), (16, bo .add (vi 6) (vi 3)), (17, tu [vs 7, vb 8]), (18, vs 7), (19, vb 8)]
def Ruh87_9 : Rg := ⟨12, 7, 2, Fuh87_4, Buh87_7, [pv (ps 1 1) 0, pl (vs 5) 0 1 1, pv (ps 1 2) 0, pl (vi 6) 0 1 2, pv (vi 3) 0, pv (bo .add (vi 6) (vi 3)) 0, pc (tu [vs 7, vb 8]) 0 128 [vs 5, bo .add (vi 6) (vi 3)] 2, pv (tu [vs 7, vb 8]) 1, pv (vs 7) 1, pv (vb 8) 1, pv (vs 7) 1, pv (vb 8) 1], [6]⟩
def Fuh87_10 := fs Fuh87_8 [(4, vs 7), (20, vs 7)]
def Ruh87_11 : Rg := ⟨2, 9, 2, Fuh87_8, Buh87_7, [pv (vs 7) 0, pv (vs 7) 0], []⟩
theorem dfixed_n {v : Value} {a : Rat} {N q : Nat} {w : World} (h : CQ w v a N) (ha : 0 ≤ a) (hN : N ≤ 67108864) (hq : q ≤ 100000) (hT : TB w) :
 Calls Tryz.prog 87 #[v, .int .i64 (q : Int)] w fun e w' => ∃ v r, e = .returned v ∧ PN w' w.heap.size v r ∧ (r : Rat) ≤ a * (2 : Rat) ^ (q : Int) ∧ a * (2 : Rat) ^ (q : Int) ≤ (r : Rat) + 1 ∧ BL w w' := by
 obtain ⟨z, e, h, rfl, hB⟩ := h
 obtain ⟨b0, A0, n0, c0, x0, rfl⟩ := h.ex
 have l := bd_len hB; have lo := bd_lo hB; have hi := bd_hi hB
 have hbl : bl (cman z) ≤ N := bl_le_iff.2 (bd_man hB)
 have hnz : cneg z = false := by unfold cneg; exact decide_eq_false (by have := Dv_nonneg.1 ha; omega)
 have hv : Dv z e * (2 : Rat) ^ (q : Int) = (cman z : Rat) * (2 : Rat) ^ (cexp z e + (q : Int)) := by rw [Dv_form z e, hnz, ← Dv_addk]; rfl
 refine fn_enter (u := 64) (fn := Tryz.f87) Tryz.func87 rfl Fuh87_0 [.bool b0, .slice A0 n0 c0, .int .i64 x0, .int .i64 (q : Int)] (by kernel_rfl) rfl (fun a0 S0 r0 => ?_)
 refine wp_seq (rk Ruh87_3 [] Fuh87_1 Buh87_2 S0 r0 ?_)
 intro _ _ _ r1 S1
 refine wp_seq (rk Ruh87_6 [.st 1 0 (d3 4)] Fuh87_4 Buh87_7 S1 r1 ?_)
 intro _ _ r2 _
 refine (done_dy (h.below r2.first) hB hN).mono ?_
 rintro _ V1 ⟨v, rfl, h1, k1⟩
 obtain ⟨b1, A1, n1, c1, x1, rfl⟩ := h1.ex
 replace h1 := h1.lower r2.fs
 refine ⟨[.bool b1, .slice A1 n1 c1, .int .i64 x1], rfl, rfl, rfl, k1, ?_⟩
 obtain ⟨hb1, hx1, p1⟩ := h1.cells
 have hX : IntKind.i64.wrap (x1 + (q : Int)) = cexp z e + q := by rw [hx1]; exact i64_id (by omega) (by omega)
 intro _ _ _ r3 S3
 refine wp_seq (rk Ruh87_9 [] Fuh87_8 Buh87_7 S3 r3 ?_)
 intro W4 _ r4 _
 show Calls Tryz.prog 128 #[.slice A1 n1 c1, .int .i64 (IntKind.i64.wrap (x1 + (q : Int)))] W4 _
 rw [hX]
 refine (dleft_f (cexp z e + q) (p1.lat (r4.at_ 0 _ rfl)).c (by omega) (by omega) (tb hT r4)).mono ?_
 rintro _ V2 ⟨v, t, M, rfl, h2, m1, m2, k2⟩
 obtain ⟨A2, n2, c2, rfl⟩ := h2.ex
 replace h2 := h2.lower r4.fs
 refine ⟨[.slice A2 n2 c2, .bool t], rfl, rfl, rfl, k2, ?_⟩
 intro _ _ _ r5 S5
 refine wp_seq (rk Ruh87_11 [] Fuh87_10 Buh87_7 S5 r5 ?_)
 intro _ _ _ r6 S6
 exact rt S6 [.slice A2 n2 c2] (⟨_, M, rfl, (h2.lat (r6.at_ 1 _ rfl)), by rw [hv]; exact m1, by rw [hv]; exact m2, r6.first⟩)
def Fuh88_0 := [vs 0, vs 1, vi 2, U, U, U, U, U, U, U, U, U, U, U, U, U]
def Fuh88_1 := fs Fuh88_0 [(6, ps 0 0)]
def Buh88_2 := [bb 28 o6]
def Ruh88_3 : Rg := ⟨1, 3, 0, Fuh88_0, Buh88_2, [pa 0 0], []⟩
def Fuh88_4 := fs Fuh88_1 [(7, vs 0), (8, vi 2), (9, f1 ngF (vi 2)), (10, dg 3), (11, vs 1), (12, vi 2), (13, f1 ngF (vi 2)), (14, dg 6), (15, ig 3)]
def Ruh88_5 : Rg := ⟨9, 3, 1, Fuh88_1, Buh88_2, [pv (vs 0) 0, pv (vi 2) 0, pv (f1 ngF (vi 2)) 0, pc (dg 3) 0 46 [lb false, vs 0, f1 ngF (vi 2)] 3, pv (vs 1) 0, pv (vi 2) 0, pv (f1 ngF (vi 2)) 0, pc (dg 6) 1 46 [lb false, vs 1, f1 ngF (vi 2)] 3, pv (ig 3) 2], [3, 7]⟩
def Buh88_6 := [bb 28 (i6 3)]
theorem dspan_w {u v : Value} {A B q : Nat} {w : World} (h : CN w u A) (h' : CN w v B) (hA : bl A ≤ q + 64) (hB : bl B ≤ q + 64) (hq : q ≤ 100000) (hT : TB w) :
 Calls Tryz.prog 88 #[u, v, .int .i64 (q : Int)] w fun e w' => ∃ v, e = .returned v ∧ PI w' w.heap.size v (Dv ((A : Nat) : Int) (-(q : Int))) (Dv ((B : Nat) : Int) (-(q : Int))) (q + 64) ∧ BL w w' := by
 obtain ⟨A0, n0, c0, rfl⟩ := h.ex
 obtain ⟨A9, n9, c9, rfl⟩ := h'.ex
 have hX : IntKind.i64.wrap (0 - (q : Int)) = -(q : Int) := by rw [i64_id (by omega) (by omega)]; omega
 refine fn_enter (u := 64) (fn := Tryz.f88) Tryz.func88 rfl Fuh88_0 [.slice A0 n0 c0, .slice A9 n9 c9, .int .i64 (q : Int)] (by kernel_rfl) rfl (fun a0 S0 r0 => ?_)
 refine wp_seq (rk Ruh88_3 [] Fuh88_1 Buh88_2 S0 r0 ?_)
 intro _ _ _ r1 S1
 refine wp_seq (rk Ruh88_5 [.st 0 0 (i6 3)] Fuh88_4 Buh88_6 S1 r1 ?_)
 intro W2 _ r2 _
 show Calls Tryz.prog 46 #[.bool false, .slice A0 n0 c0, .int .i64 (IntKind.i64.wrap (0 - (q : Int)))] W2 _
 rw [hX]
 refine (form_d false (-(q : Int)) (h.below r2.first) (by omega) (by omega) (by omega)).mono ?_
 rintro _ V1 ⟨v, rfl, h1, k1⟩
 obtain ⟨b1, A1, n1, c1, x1, rfl⟩ := h1.ex
 replace h1 := h1.lower r2.fs
 refine ⟨[.bool b1, .slice A1 n1 c1, .int .i64 x1], rfl, rfl, rfl, k1, ?_⟩
 intro W3 _ r3 _
 show Calls Tryz.prog 46 #[.bool false, .slice A9 n9 c9, .int .i64 (IntKind.i64.wrap (0 - (q : Int)))] W3 _
 rw [hX]
 refine (form_d false (-(q : Int)) (h'.below r3.first) (by omega) (by omega) (by omega)).mono ?_
 rintro _ V2 ⟨v, rfl, h2, k2⟩
 obtain ⟨b2, A2, n2, c2, x2, rfl⟩ := h2.ex
 replace h2 := h2.lower r3.fs
 refine ⟨[.bool b2, .slice A2 n2 c2, .int .i64 x2], rfl, rfl, rfl, k2, ?_⟩
 intro _ _ _ r4 S4
 exact rt S4 [.agg #[.bool b1, .slice A1 n1 c1, .int .i64 x1, .bool b2, .slice A2 n2 c2, .int .i64 x2]] (⟨_, rfl, .mk ⟨_, _, (h1.lat (r4.at_ 0 _ rfl)), rfl, bd_of (s := false) hA (by omega) (by omega)⟩ ⟨_, _, (h2.lat (r4.at_ 1 _ rfl)), rfl, bd_of (s := false) hB (by omega) (by omega)⟩, r4.first⟩)
def Fuh76_0 : List Sy := [U, U, U]
def Fuh76_1 := fs Fuh76_0 [(0, ps 0 0)]
def Buh76_2 := [bb 28 o6]
def Ruh76_3 : Rg := ⟨1, 0, 0, Fuh76_0, Buh76_2, [pa 0 0], []⟩
def Fuh76_4 := fs Fuh76_1 [(1, dg 0), (2, ig 3)]
def Ruh76_5 : Rg := ⟨2, 0, 1, Fuh76_1, Buh76_2, [pc (dg 0) 0 21 [li 1] 3, pc (ig 3) 1 20 [dg 0] 6], [0, 1]⟩
def Buh76_6 := [bb 28 (i6 3)]
theorem deone_q (w : World) (hT : TB w) :
 Calls Tryz.prog 76 #[] w fun en w' => ∃ v', en = .returned v' ∧ PI w' w.heap.size v' 1 1 64 ∧ BL w w' := by
 refine fn_enter (u := 64) (fn := Tryz.f76) Tryz.func76 rfl Fuh76_0 [] (by kernel_rfl) rfl (fun a0 S0 r0 => ?_)
 refine wp_seq (rk Ruh76_3 [] Fuh76_1 Buh76_2 S0 r0 ?_)
 intro _ _ _ r1 S1
 refine wp_seq (rk Ruh76_5 [.st 0 0 (i6 3)] Fuh76_4 Buh76_6 S1 r1 ?_)
 intro _ _ r2 _
 refine (dint_q 1 _ (by decide) (by decide)).mono ?_
 rintro _ V1 ⟨v, rfl, h1, k1⟩
 obtain ⟨b1, A1, n1, c1, x1, rfl⟩ := h1.ex
 replace h1 := h1.lower r2.fs
 refine ⟨[.bool b1, .slice A1 n1 c1, .int .i64 x1], rfl, rfl, rfl, k1, ?_⟩
 intro _ _ r3 _
 refine (dpoint_q (h1.lat (r3.at_ 0 _ rfl)).c (by decide) (tb hT r3)).mono ?_
 rintro _ V2 ⟨v, rfl, h2, k2⟩
 obtain ⟨b2, A2, n2, c2, x2, d2, B2, m2, e2, y2, rfl⟩ := h2.ex
 replace h2 := h2.lower r3.fs
 refine ⟨[.bool b2, .slice A2 n2 c2, .int .i64 x2, .bool d2, .slice B2 m2 e2, .int .i64 y2], rfl, rfl, rfl, k2, ?_⟩
 intro _ _ _ r4 S4
 exact rt S4 [.agg #[.bool b2, .slice A2 n2 c2, .int .i64 x2, .bool d2, .slice B2 m2 e2, .int .i64 y2]] (⟨_, rfl, (h2.lat (r4.at_ 1 _ rfl)), r4.first⟩)
theorem fix_256 {a : Rat} {q r : Nat} (ha : 256 * a ≤ 1) (h1 : (r : Rat) ≤ a * (2 : Rat) ^ (q : Int)) : 256 * r ≤ 2 ^ q := by
 rw [two_w] at h1
 have h2 : ((256 * r : Nat) : Rat) ≤ ((2 ^ q : Nat) : Rat) := by
  rw [Rat.natCast_mul, show ((256 : Nat) : Rat) = 256 from rfl]
  have := Rat.mul_le_mul_of_nonneg_right ha (show (0 : Rat) ≤ ((2 ^ q : Nat) : Rat) from Rat.natCast_nonneg)
  rw [Rat.one_mul] at this
  grind
 exact Rat.natCast_le_natCast.1 h2
theorem dsml {a : Rat} {q r m n : Nat} (hq : 64 ≤ q) (hq2 : q ≤ 40000) (h0 : 0 ≤ a) (ha : 256 * a ≤ 1) (h1 : (r : Rat) ≤ a * (2 : Rat) ^ (q : Int)) (h2 : a * (2 : Rat) ^ (q : Int) ≤ (r : Rat) + 1) (n1 : 0 < n) (n2 : 8 * n ≤ q + 8) (n3 : (teF (2 ^ q) (r, 0) m n).1 = 0) :
 Sml m q a (Dv (((seF (2 ^ q) (r, 0) m n).1 : Nat) : Int) (-(q : Int))) (Dv (((seF (2 ^ q) (r, 0) m n).1 + (2 * n + 8) : Nat) : Int) (-(q : Int))) := by
 have hr := fix_256 ha h1
 rw [two_w] at h1 h2
 refine sml_fin hq hq2 n2 ⟨dsmall_encl (by omega) hr h1 h2 h0 (by grind) n1 n3, se_first n1, ?_, by omega⟩
 have := se_top (pow256 (by omega : 8 ≤ q)) m (x := (r, 0)) hr (Nat.zero_le _) n
 omega
theorem dsml_bl {q r m n : Nat} (hq : 64 ≤ q) (hq2 : q ≤ 40000) (hr : 256 * r ≤ 2 ^ q) (n2 : 8 * n ≤ q + 8) : bl (seF (2 ^ q) (r, 0) m n).1 ≤ q + 64 ∧ bl ((seF (2 ^ q) (r, 0) m n).1 + (2 * n + 8)) ≤ q + 64 := by
 have h1 := se_bl (q := q) (by omega) hr m n
 have h2 := bl_add (K := q + 2) h1 (show bl (2 * n + 8) ≤ q + 2 by
  have : bl (2 * n + 8) ≤ 16 := bl_le_iff.2 (by have : (2 : Nat) ^ 16 = 65536 := rfl; omega)
  omega)
 omega
theorem ab_of {a : Rat} (h : 0 ≤ a) : ab a = a := if_pos h
def Fuh74_0 := [dg 0, vi 3, U, U, U, U, U, U, U, U, U, U, U, U, U, U, U, U, U, U, U, U, U, U, U, U, U, U, U, U, U, U, U, U, U, U, U, U, U, U, U, U, U, U, U, U, U, U, U]
def Fuh74_1 := fs Fuh74_0 [(2, ps 0 0), (4, ps 1 0)]
def Buh74_2 := [bb 25 (d3 0), bb 28 o6]
def Ruh74_3 : Rg := ⟨2, 4, 0, Fuh74_0, Buh74_2, [pa 0 0, pa 1 0], []⟩
def Fuh74_4 := fs Fuh74_1 [(5, li 0)]
def Ruh74_5 : Rg := ⟨1, 4, 2, Fuh74_1, Buh74_2, [pv (li 0) 0], []⟩
def Fuh74_6 := fs Fuh74_4 [(11, dg 0), (12, vb 4), (13, f1 noF (vb 4))]
def Ruh74_7 : Rg := ⟨3, 4, 2, Fuh74_4, Buh74_2, [pl (dg 0) 0 0 0, pc (vb 4) 0 42 [dg 0] 1, pv (f1 noF (vb 4)) 1], [1]⟩
def Fuh74_8 := fs Fuh74_6 [(5, f2 mxF (bo .add (vi 5) (li 9)) (li 0)), (14, dg 0), (15, vi 5), (16, bo .add (vi 5) (li 9)), (17, f2 mxF (bo .add (vi 5) (li 9)) (li 0))]
def Ruh74_9 : Rg := ⟨5, 5, 2, Fuh74_6, Buh74_2, [pl (dg 0) 0 0 0, pc (vi 5) 0 43 [dg 0] 1, pv (bo .add (vi 5) (li 9)) 1, pv (f2 mxF (bo .add (vi 5) (li 9)) (li 0)) 1, pv (f2 mxF (bo .add (vi 5) (li 9)) (li 0)) 1], [1]⟩
def Fuh74_10 := fs Fuh74_8 [(6, bo .add (bo .add (vi 3) (bo .mul (li 2) (f2 mxF (bo .add (vi 5) (li 9)) (li 0)))) (li 64)), (18, vi 3), (19, f2 mxF (bo .add (vi 5) (li 9)) (li 0)), (20, bo .mul (li 2) (f2 mxF (bo .add (vi 5) (li 9)) (li 0))), (21, bo .add (vi 3) (bo .mul (li 2) (f2 mxF (bo .add (vi 5) (li 9)) (li 0)))), (22, bo .add (bo .add (vi 3) (bo .mul (li 2) (f2 mxF (bo .add (vi 5) (li 9)) (li 0)))) (li 64))]
def Ruh74_11 : Rg := ⟨6, 6, 2, Fuh74_8, Buh74_2, [pv (vi 3) 0, pv (f2 mxF (bo .add (vi 5) (li 9)) (li 0)) 0, pv (bo .mul (li 2) (f2 mxF (bo .add (vi 5) (li 9)) (li 0))) 0, pv (bo .add (vi 3) (bo .mul (li 2) (f2 mxF (bo .add (vi 5) (li 9)) (li 0)))) 0, pv (bo .add (bo .add (vi 3) (bo .mul (li 2) (f2 mxF (bo .add (vi 5) (li 9)) (li 0)))) (li 64)) 0, pv (bo .add (bo .add (vi 3) (bo .mul (li 2) (f2 mxF (bo .add (vi 5) (li 9)) (li 0)))) (li 64)) 0], []⟩
def Fuh74_12 := fs Fuh74_10 [(7, vs 10), (8, vs 11), (23, tu [vs 10, vs 11]), (24, dg 0), (25, f2 mxF (bo .add (vi 5) (li 9)) (li 0)), (26, f1 ngF (f2 mxF (bo .add (vi 5) (li 9)) (li 0))), (27, dg 6), (28, bo .add (bo .add (vi 3) (bo .mul (li 2) (f2 mxF (bo .add (vi 5) (li 9)) (li 0)))) (li 64)), (29, vs 9), (30, bo .add (bo .add (vi 3) (bo .mul (li 2) (f2 mxF (bo .add (vi 5) (li 9)) (li 0)))) (li 64)), (31, tu [vs 10, vs 11]), (32, vs 10), (33, vs 11)]
def Ruh74_13 : Rg := ⟨13, 6, 2, Fuh74_10, Buh74_2, [pl (dg 0) 0 0 0, pv (f2 mxF (bo .add (vi 5) (li 9)) (li 0)) 0, pv (f1 ngF (f2 mxF (bo .add (vi 5) (li 9)) (li 0))) 0, pc (dg 6) 0 114 [dg 0, f1 ngF (f2 mxF (bo .add (vi 5) (li 9)) (li 0))] 3, pv (bo .add (bo .add (vi 3) (bo .mul (li 2) (f2 mxF (bo .add (vi 5) (li 9)) (li 0)))) (li 64)) 0, pc (vs 9) 1 87 [dg 6, bo .add (bo .add (vi 3) (bo .mul (li 2) (f2 mxF (bo .add (vi 5) (li 9)) (li 0)))) (li 64)] 1, pv (bo .add (bo .add (vi 3) (bo .mul (li 2) (f2 mxF (bo .add (vi 5) (li 9)) (li 0)))) (li 64)) 0, pc (tu [vs 10, vs 11]) 2 86 [vs 9, bo .add (bo .add (vi 3) (bo .mul (li 2) (f2 mxF (bo .add (vi 5) (li 9)) (li 0)))) (li 64), lu 0] 2, pv (tu [vs 10, vs 11]) 3, pv (vs 10) 3, pv (vs 11) 3, pv (vs 10) 3, pv (vs 11) 3], [3, 5, 7]⟩
def Fuh74_14 := fs Fuh74_12 [(9, ps 2 0), (34, vs 10), (35, vs 11), (36, bo .add (bo .add (vi 3) (bo .mul (li 2) (f2 mxF (bo .add (vi 5) (li 9)) (li 0)))) (li 64)), (37, ig 12)]
def Buh74_15 := [bb 25 (d3 0), bb 28 o6, bb 28 o6]
def Ruh74_16 : Rg := ⟨5, 12, 2, Fuh74_12, Buh74_15, [pv (vs 10) 0, pv (vs 11) 0, pv (bo .add (bo .add (vi 3) (bo .mul (li 2) (f2 mxF (bo .add (vi 5) (li 9)) (li 0)))) (li 64)) 0, pc (ig 12) 0 88 [vs 10, vs 11, bo .add (bo .add (vi 3) (bo .mul (li 2) (f2 mxF (bo .add (vi 5) (li 9)) (li 0)))) (li 64)] 6, pa 2 0], [3]⟩
def Buh74_17 := [bb 25 (d3 0), bb 28 o6, bb 28 (i6 12)]
def Fuh74_18 := fs Fuh74_14 [(10, li 0)]
def Ruh74_19 : Rg := ⟨1, 18, 3, Fuh74_14, Buh74_17, [pv (li 0) 0], []⟩
def Luh74_20 (jj1 : List Value) := [dg 0, vi 3, ps 0 0, U, ps 1 0, f2 mxF (bo .add (vi 5) (li 9)) (li 0), bo .add (bo .add (vi 3) (bo .mul (li 2) (f2 mxF (bo .add (vi 5) (li 9)) (li 0)))) (li 64), vs 10, vs 11, ps 2 0, vi 24, dg 0, vb 4, f1 noF (vb 4), dg 0, vi 5, bo .add (vi 5) (li 9), f2 mxF (bo .add (vi 5) (li 9)) (li 0), vi 3, f2 mxF (bo .add (vi 5) (li 9)) (li 0), bo .mul (li 2) (f2 mxF (bo .add (vi 5) (li 9)) (li 0)), bo .add (vi 3) (bo .mul (li 2) (f2 mxF (bo .add (vi 5) (li 9)) (li 0))), bo .add (bo .add (vi 3) (bo .mul (li 2) (f2 mxF (bo .add (vi 5) (li 9)) (li 0)))) (li 64), tu [vs 10, vs 11], dg 0, f2 mxF (bo .add (vi 5) (li 9)) (li 0), f1 ngF (f2 mxF (bo .add (vi 5) (li 9)) (li 0)), dg 6, bo .add (bo .add (vi 3) (bo .mul (li 2) (f2 mxF (bo .add (vi 5) (li 9)) (li 0)))) (li 64), vs 9, bo .add (bo .add (vi 3) (bo .mul (li 2) (f2 mxF (bo .add (vi 5) (li 9)) (li 0)))) (li 64), tu [vs 10, vs 11], vs 10, vs 11, vs 10, vs 11, bo .add (bo .add (vi 3) (bo .mul (li 2) (f2 mxF (bo .add (vi 5) (li 9)) (li 0)))) (li 64), ig 12, jw jj1 0, jw jj1 1, jw jj1 2, jw jj1 3, jw jj1 4, jw jj1 5, jw jj1 6, jw jj1 7, jw jj1 8, jw jj1 9, U]
def Buh74_21 := [bb 25 (d3 0), bb 28 o6, bb 28 (i6 18)]
def Juh74_22 : List Nat := [38, 39, 40, 41, 42, 43, 44, 45, 46, 47]
def Fuh74_23 (jj1 : List Value) := fs (Luh74_20 jj1) [(38, vi 24), (39, f2 mxF (bo .add (vi 5) (li 9)) (li 0)), (40, bo .lss (vi 24) (f2 mxF (bo .add (vi 5) (li 9)) (li 0)))]
def Ruh74_24 (jj1 : List Value) : Rg := ⟨3, 25, 3, (Luh74_20 jj1), Buh74_21, [pv (vi 24) 0, pv (f2 mxF (bo .add (vi 5) (li 9)) (li 0)) 0, pv (bo .lss (vi 24) (f2 mxF (bo .add (vi 5) (li 9)) (li 0))) 0], []⟩
def Fuh74_25 (jj1 : List Value) := fs (Fuh74_23 jj1) [(43, ig 18), (44, ig 18), (45, bo .add (bo .add (vi 3) (bo .mul (li 2) (f2 mxF (bo .add (vi 5) (li 9)) (li 0)))) (li 64)), (46, bo .add (bo .add (bo .add (vi 3) (bo .mul (li 2) (f2 mxF (bo .add (vi 5) (li 9)) (li 0)))) (li 64)) (li 8)), (47, ig 25)]
def Ruh74_26 (jj1 : List Value) : Rg := ⟨5, 25, 3, (Fuh74_23 jj1), Buh74_21, [pl (ig 18) 0 2 0, pl (ig 18) 0 2 0, pv (bo .add (bo .add (vi 3) (bo .mul (li 2) (f2 mxF (bo .add (vi 5) (li 9)) (li 0)))) (li 64)) 0, pv (bo .add (bo .add (bo .add (vi 3) (bo .mul (li 2) (f2 mxF (bo .add (vi 5) (li 9)) (li 0)))) (li 64)) (li 8)) 0, pc (ig 25) 0 31 [ig 18, ig 18, bo .add (bo .add (bo .add (vi 3) (bo .mul (li 2) (f2 mxF (bo .add (vi 5) (li 9)) (li 0)))) (li 64)) (li 8)] 6], [4]⟩
def Buh74_27 := [bb 25 (d3 0), bb 28 o6, bb 28 (i6 25)]
def Fuh74_28 (jj1 : List Value) := fs (Fuh74_25 jj1) [(10, bo .add (vi 24) (li 1)), (41, vi 24), (42, bo .add (vi 24) (li 1))]
def Ruh74_29 (jj1 : List Value) : Rg := ⟨2, 31, 3, (Fuh74_25 jj1), Buh74_27, [pv (vi 24) 0, pv (bo .add (vi 24) (li 1)) 0], []⟩
def Fuh74_30 (jj1 : List Value) := fs (Fuh74_23 jj1) [(48, ig 18)]
def Ruh74_31 (jj1 : List Value) : Rg := ⟨1, 25, 3, (Fuh74_23 jj1), Buh74_21, [pl (ig 18) 0 2 0], []⟩
def Buh74_32 := [bb 25 (d3 0), bb 28 (i6 18), bb 28 (i6 18)]
def Fuh74_33 := fs Fuh74_6 [(6, bo .add (bo .add (vi 3) (li 0)) (li 64)), (18, vi 3), (19, li 0), (20, li 0), (21, bo .add (vi 3) (li 0)), (22, bo .add (bo .add (vi 3) (li 0)) (li 64))]
def Ruh74_34 : Rg := ⟨6, 5, 2, Fuh74_6, Buh74_2, [pv (vi 3) 0, pv (li 0) 0, pv (li 0) 0, pv (bo .add (vi 3) (li 0)) 0, pv (bo .add (bo .add (vi 3) (li 0)) (li 64)) 0, pv (bo .add (bo .add (vi 3) (li 0)) (li 64)) 0], []⟩
def Fuh74_35 := fs Fuh74_33 [(7, vs 9), (8, vs 10), (23, tu [vs 9, vs 10]), (24, dg 0), (25, li 0), (26, f1 ngF (li 0)), (27, dg 5), (28, bo .add (bo .add (vi 3) (li 0)) (li 64)), (29, vs 8), (30, bo .add (bo .add (vi 3) (li 0)) (li 64)), (31, tu [vs 9, vs 10]), (32, vs 9), (33, vs 10)]
def Ruh74_36 : Rg := ⟨13, 5, 2, Fuh74_33, Buh74_2, [pl (dg 0) 0 0 0, pv (li 0) 0, pv (f1 ngF (li 0)) 0, pc (dg 5) 0 114 [dg 0, f1 ngF (li 0)] 3, pv (bo .add (bo .add (vi 3) (li 0)) (li 64)) 0, pc (vs 8) 1 87 [dg 5, bo .add (bo .add (vi 3) (li 0)) (li 64)] 1, pv (bo .add (bo .add (vi 3) (li 0)) (li 64)) 0, pc (tu [vs 9, vs 10]) 2 86 [vs 8, bo .add (bo .add (vi 3) (li 0)) (li 64), lu 0] 2, pv (tu [vs 9, vs 10]) 3, pv (vs 9) 3, pv (vs 10) 3, pv (vs 9) 3, pv (vs 10) 3], [3, 5, 7]⟩
def Fuh74_37 := fs Fuh74_35 [(9, ps 2 0), (34, vs 9), (35, vs 10), (36, bo .add (bo .add (vi 3) (li 0)) (li 64)), (37, ig 11)]
def Ruh74_38 : Rg := ⟨5, 11, 2, Fuh74_35, Buh74_15, [pv (vs 9) 0, pv (vs 10) 0, pv (bo .add (bo .add (vi 3) (li 0)) (li 64)) 0, pc (ig 11) 0 88 [vs 9, vs 10, bo .add (bo .add (vi 3) (li 0)) (li 64)] 6, pa 2 0], [3]⟩
def Buh74_39 := [bb 25 (d3 0), bb 28 o6, bb 28 (i6 11)]
def Fuh74_40 := fs Fuh74_37 [(10, li 0)]
def Ruh74_41 : Rg := ⟨1, 17, 3, Fuh74_37, Buh74_39, [pv (li 0) 0], []⟩
def Luh74_42 (jj2 : List Value) := [dg 0, vi 3, ps 0 0, U, ps 1 0, li 0, bo .add (bo .add (vi 3) (li 0)) (li 64), vs 9, vs 10, ps 2 0, vi 23, dg 0, vb 4, f1 noF (vb 4), U, U, U, U, vi 3, li 0, li 0, bo .add (vi 3) (li 0), bo .add (bo .add (vi 3) (li 0)) (li 64), tu [vs 9, vs 10], dg 0, li 0, f1 ngF (li 0), dg 5, bo .add (bo .add (vi 3) (li 0)) (li 64), vs 8, bo .add (bo .add (vi 3) (li 0)) (li 64), tu [vs 9, vs 10], vs 9, vs 10, vs 9, vs 10, bo .add (bo .add (vi 3) (li 0)) (li 64), ig 11, jw jj2 0, jw jj2 1, jw jj2 2, jw jj2 3, jw jj2 4, jw jj2 5, jw jj2 6, jw jj2 7, jw jj2 8, jw jj2 9, U]
def Buh74_43 := [bb 25 (d3 0), bb 28 o6, bb 28 (i6 17)]
def Fuh74_44 (jj2 : List Value) := fs (Luh74_42 jj2) [(38, vi 23), (39, li 0), (40, bo .lss (vi 23) (li 0))]
def Ruh74_45 (jj2 : List Value) : Rg := ⟨3, 24, 3, (Luh74_42 jj2), Buh74_43, [pv (vi 23) 0, pv (li 0) 0, pv (bo .lss (vi 23) (li 0)) 0], []⟩
def Fuh74_46 (jj2 : List Value) := fs (Fuh74_44 jj2) [(43, ig 17), (44, ig 17), (45, bo .add (bo .add (vi 3) (li 0)) (li 64)), (46, bo .add (bo .add (bo .add (vi 3) (li 0)) (li 64)) (li 8)), (47, ig 24)]
def Ruh74_47 (jj2 : List Value) : Rg := ⟨5, 24, 3, (Fuh74_44 jj2), Buh74_43, [pl (ig 17) 0 2 0, pl (ig 17) 0 2 0, pv (bo .add (bo .add (vi 3) (li 0)) (li 64)) 0, pv (bo .add (bo .add (bo .add (vi 3) (li 0)) (li 64)) (li 8)) 0, pc (ig 24) 0 31 [ig 17, ig 17, bo .add (bo .add (bo .add (vi 3) (li 0)) (li 64)) (li 8)] 6], [4]⟩
def Buh74_48 := [bb 25 (d3 0), bb 28 o6, bb 28 (i6 24)]
def Fuh74_49 (jj2 : List Value) := fs (Fuh74_46 jj2) [(10, bo .add (vi 23) (li 1)), (41, vi 23), (42, bo .add (vi 23) (li 1))]
def Ruh74_50 (jj2 : List Value) : Rg := ⟨2, 30, 3, (Fuh74_46 jj2), Buh74_48, [pv (vi 23) 0, pv (bo .add (vi 23) (li 1)) 0], []⟩
def Fuh74_51 (jj2 : List Value) := fs (Fuh74_44 jj2) [(48, ig 17)]
def Ruh74_52 (jj2 : List Value) : Rg := ⟨1, 24, 3, (Fuh74_44 jj2), Buh74_43, [pl (ig 17) 0 2 0], []⟩
def Buh74_53 := [bb 25 (d3 0), bb 28 (i6 17), bb 28 (i6 17)]
theorem dpos_q {v : Value} {a : Rat} {N p : Nat} {w : World} (h : CQ w v a N) (ha : 0 ≤ a) (ha2 : a ≤ 16384) (hN : N ≤ 16777216) (hp : 8 ≤ p) (hp2 : p ≤ 5000) (hT : TB w) :
 Calls Tryz.prog 74 #[v, .int .i64 (p : Int)] w fun en w' => ∃ v' l u, en = .returned v' ∧ PI w' w.heap.size v' l u 32768 ∧ Ab (p + 50) a l u ∧ BL w w' := by
 obtain ⟨b0, A0, n0, c0, x0, rfl⟩ := h.ex
 refine fn_enter (u := 64) (fn := Tryz.f74) Tryz.func74 rfl Fuh74_0 [.bool b0, .slice A0 n0 c0, .int .i64 x0, .int .i64 (p : Int)] (by kernel_rfl) rfl (fun a0 S0 r0 => ?_)
 refine wp_seq (rk Ruh74_3 [] Fuh74_1 Buh74_2 S0 r0 ?_)
 intro _ _ _ r1 S1
 refine wp_seq (rk Ruh74_5 [] Fuh74_4 Buh74_2 S1 r1 ?_)
 intro _ _ _ r2 S2
 refine wp_seq ?_
 refine wp_seq (rk Ruh74_7 [] Fuh74_6 Buh74_2 S2 r2 ?_)
 intro _ _ r3 _
 refine (dzero_q (h.below r3.first) (by omega)).mono ?_
 rintro _ V1 ⟨rfl, k1⟩
 refine ⟨[.bool (decide (a = 0))], rfl, rfl, rfl, k1, ?_⟩
 intro _ _ _ r4 S4
 refine wp_cond_split (t := !(decide (a = 0))) (S4.cnd (by kernel_rfl)) (fun q1 => ?_) (fun q1 => ?_)
 · have hne : ¬ a = 0 := of_decide_eq_false (by simpa using q1)
   refine rk Ruh74_9 [] Fuh74_8 Buh74_2 S4 r4 ?_
   intro W5 g5 r5 _
   refine (dtop_q (h.below r5.first) (by omega)).mono ?_
   rintro _ V2 ⟨T, rfl, t0, t3, t4, k2⟩
   obtain ⟨t1, t2⟩ := t0 hne
   rw [ab_of ha] at t1 t2
   refine ⟨[.int .i64 T], rfl, rfl, rfl, k2, ?_⟩
   obtain ⟨s, hs, hs2, hsm⟩ := top_s t1 t2 ha2 t3
   have hT9 : IntKind.i64.wrap (T + 9) = T + 9 := i64_id (by omega) (by omega)
   have hs1 : (if 0 > IntKind.i64.wrap (T + 9) then 0 else IntKind.i64.wrap (T + 9)) = (s : Int) := by rw [hT9]; exact hs
   have hw : IntKind.i64.wrap (IntKind.i64.wrap ((p : Int) + IntKind.i64.wrap (2 * (if 0 > IntKind.i64.wrap (T + 9) then 0 else IntKind.i64.wrap (T + 9)))) + 64) = ((p + 2 * s + 64 : Nat) : Int) := by rw [hs1, wrap3 hp2 hs2]
   have hw8 : IntKind.i64.wrap (IntKind.i64.wrap (IntKind.i64.wrap ((p : Int) + IntKind.i64.wrap (2 * (if 0 > IntKind.i64.wrap (T + 9) then 0 else IntKind.i64.wrap (T + 9)))) + 64) + 8) = ((p + 2 * s + 64 + 8 : Nat) : Int) := by rw [hw, i64_id (by omega) (by omega)]; rfl
   have hns : IntKind.i64.wrap (0 - (if 0 > IntKind.i64.wrap (T + 9) then 0 else IntKind.i64.wrap (T + 9))) = -(s : Int) := by rw [hs1, i64_id (by omega) (by omega)]; omega
   intro _ g6 W6 r6 S6
   refine wp_seq (rk Ruh74_11 [] Fuh74_10 Buh74_2 S6 r6 ?_)
   intro _ g7 W7 r7 S7
   refine wp_seq (rk Ruh74_13 [] Fuh74_12 Buh74_2 S7 r7 ?_)
   intro W8 g8 r8 _
   show Calls Tryz.prog 114 #[.agg #[.bool b0, .slice A0 n0 c0, .int .i64 x0], .int .i64 (IntKind.i64.wrap (0 - (if 0 > IntKind.i64.wrap (T + 9) then 0 else IntKind.i64.wrap (T + 9))))] W8 _
   rw [hns]
   refine (dtwice_q (K := 23) (-(s : Int)) (h.below r8.first) (by omega) (by omega) (by decide) (tb hT r8)).mono ?_
   rintro _ V3 ⟨v, rfl, htw, k3⟩
   obtain ⟨b3, A3, n3, c3, x3, rfl⟩ := htw.ex
   replace htw := htw.lower r8.fs
   refine ⟨[.bool b3, .slice A3 n3 c3, .int .i64 x3], rfl, rfl, rfl, k3, ?_⟩
   have ha0 : 0 ≤ a * (2 : Rat) ^ (-(s : Int)) := Rat.mul_nonneg ha (Rat.le_of_lt (Dv_pow_pos _))
   intro W9 g9 r9 _
   show Calls Tryz.prog 87 #[.agg #[.bool b3, .slice A3 n3 c3, .int .i64 x3], .int .i64 (IntKind.i64.wrap ((IntKind.i64.wrap ((p : Int) + (IntKind.i64.wrap (2 * (if 0 > IntKind.i64.wrap (T + 9) then 0 else IntKind.i64.wrap (T + 9)))))) + 64))] W9 _
   rw [hw]
   refine (dfixed_n (q := p + 2 * s + 64) (htw.lat (r9.at_ 2 _ rfl)).c ha0 (by omega) (by omega) (tb hT r9)).mono ?_
   rintro _ V4 ⟨v, r, rfl, hfx, r1, r2, k4⟩
   obtain ⟨A4, n4, c4, rfl⟩ := hfx.ex
   replace hfx := hfx.lower r9.fs
   have hr := fix_256 hsm r1
   refine ⟨[.slice A4 n4 c4], rfl, rfl, rfl, k4, ?_⟩
   intro W10 g10 r10 _
   show Calls Tryz.prog 86 #[.slice A4 n4 c4, .int .i64 (IntKind.i64.wrap ((IntKind.i64.wrap ((p : Int) + (IntKind.i64.wrap (2 * (if 0 > IntKind.i64.wrap (T + 9) then 0 else IntKind.i64.wrap (T + 9)))))) + 64)), .int .u64 0] W10 _
   rw [hw]
   refine (dsmall_n (m := 0) (q := p + 2 * s + 64) (hfx.lat (r10.at_ 3 _ rfl)).c hr (by omega) (by omega) (by decide) (tb hT r10)).mono ?_
   rintro _ V5 ⟨v1, v2, n, rfl, hsa, hsb, te1, te2, te3, k5⟩
   obtain ⟨A5, n5, c5, rfl⟩ := hsa.ex
   obtain ⟨B5, m5, d5, rfl⟩ := hsb.ex
   replace hsa := hsa.lower r10.fs
   replace hsb := hsb.lower r10.fs
   have hsml := dsml (by omega) (by omega) ha0 hsm r1 r2 te1 te2 te3
   have hbl := dsml_bl (m := 0) (q := p + 2 * s + 64) (by omega) (by omega) hr te2
   refine ⟨[.slice A5 n5 c5, .slice B5 m5 d5], rfl, rfl, rfl, k5, ?_⟩
   intro a11 g11 W11 r11 S11
   refine wp_seq (rk Ruh74_16 [.st 2 0 (i6 12)] Fuh74_14 Buh74_17 S11 r11 ?_)
   intro W12 g12 r12 _
   show Calls Tryz.prog 88 #[.slice A5 n5 c5, .slice B5 m5 d5, .int .i64 (IntKind.i64.wrap ((IntKind.i64.wrap ((p : Int) + (IntKind.i64.wrap (2 * (if 0 > IntKind.i64.wrap (T + 9) then 0 else IntKind.i64.wrap (T + 9)))))) + 64))] W12 _
   rw [hw]
   refine (dspan_w (q := p + 2 * s + 64) (hsa.lat (r12.at_ 4 _ rfl)).c (hsb.lat (r12.at_ 4 _ rfl)).c hbl.1 hbl.2 (by omega) (tb hT r12)).mono ?_
   rintro _ V6 ⟨v, rfl, hsp, k6⟩
   obtain ⟨b6, A6, n6, c6, x6, d6, B6, m6, e6, y6, rfl⟩ := hsp.ex
   replace hsp := hsp.lower r12.fs
   refine ⟨[.bool b6, .slice A6 n6 c6, .int .i64 x6, .bool d6, .slice B6 m6 e6, .int .i64 y6], rfl, rfl, rfl, k6, ?_⟩
   intro a13 g13 W13 r13 S13
   refine wp_seq ?_
   refine wp_seq (rk Ruh74_19 [] Fuh74_18 Buh74_17 S13 r13 ?_)
   intro a14 g14 W14 r14 S14
   refine wp_block ?_
   refine wp_loop_n (fun nn aa WW => ∃ (jj1 : List Value) (y1 z1 : Bool) (yA zA : Option Addr) (yn yc zn zc : Nat) (yx zx ii : Int) (i : Nat) (lo hi : Rat) (gg : Nat → Nat), nn = s - i ∧ BL w WW ∧ St w (Luh74_20 jj1) Buh74_21 [.bool b0, .slice A0 n0 c0, .int .i64 x0, .int .i64 (p : Int), .bool (decide (a = 0)), .int .i64 T, .bool b3, .slice A3 n3 c3, .int .i64 x3, .slice A4 n4 c4, .slice A5 n5 c5, .slice B5 m5 d5, .bool b6, .slice A6 n6 c6, .int .i64 x6, .bool d6, .slice B6 m6 e6, .int .i64 y6, .bool y1, .slice yA yn yc, .int .i64 yx, .bool z1, .slice zA zn zc, .int .i64 zx, .int .i64 ii] gg aa WW ∧ PI WW w.heap.size (.agg #[.bool y1, .slice yA yn yc, .int .i64 yx, .bool z1, .slice zA zn zc, .int .i64 zx]) lo hi 32768 ∧ Ab (p + 50 + 2 * (s - i)) (a * (2 : Rat) ^ ((i : Int) - (s : Int))) lo hi ∧ i ≤ s ∧ ii = (i : Int)) ⟨jv S14 Juh74_22, _, _, _, _, _, _, _, _, _, _, _, 0, _, _, _, rfl, r14.first, St.to S14 [0, 1, 2] (by kernel_rfl) (by kernel_rfl) (by decide) rfl, ((hsp.lat (r14.at_ 5 _ rfl)).more (by omega)), (Ab.start hp hs2 hsml), Nat.zero_le _, rfl⟩ ?_
   rintro _ a15 W15 ⟨jj1, y1, z1, yA, zA, yn, yc, zn, zc, yx, zx, ii, i, lo, hi, g15, rfl, b15, S15, f1, f2, f3, f4⟩
   have r15 : Reach 64 w [W15] W15 := .of_below b15
   subst f4
   refine wp_seq ?_
   refine wp_seq (rk (Ruh74_24 jj1) [] (Fuh74_23 jj1) Buh74_21 S15 r15 ?_)
   intro a16 g16 W16 r16 S16
   refine wp_cond_split (t := decide ((i : Int) < (if 0 > IntKind.i64.wrap (T + 9) then 0 else IntKind.i64.wrap (T + 9)))) (S16.cnd (by kernel_rfl)) (fun q2 => ?_) (fun q2 => ?_)
   · have hi2 : i + 1 ≤ s := by have := of_decide_eq_true q2; rw [hs1] at this; omega
     refine wp_skip ?_
     refine wp_seq ?_
     refine wp_block ?_
     refine rk (Ruh74_26 jj1) [.st 2 0 (i6 25)] (Fuh74_25 jj1) Buh74_27 S16 r16 ?_
     intro W17 g17 r17 _
     show Calls Tryz.prog 31 #[.agg #[.bool y1, .slice yA yn yc, .int .i64 yx, .bool z1, .slice zA zn zc, .int .i64 zx], .agg #[.bool y1, .slice yA yn yc, .int .i64 yx, .bool z1, .slice zA zn zc, .int .i64 zx], .int .i64 (IntKind.i64.wrap ((IntKind.i64.wrap ((IntKind.i64.wrap ((p : Int) + (IntKind.i64.wrap (2 * (if 0 > IntKind.i64.wrap (T + 9) then 0 else IntKind.i64.wrap (T + 9)))))) + 64)) + 8))] W17 _
     rw [hw8]
     refine (dtimes_i (p := p + 2 * s + 64 + 8) (f1.lat (r17.at_ 0 _ rfl)).c (f1.lat (r17.at_ 0 _ rfl)).c (by omega) (by omega) (by omega) (tb hT r17)).mono ?_
     rintro _ V7 ⟨v, l, u, rfl, hq, hf, sq1, sq2, k7⟩
     obtain ⟨b7, A7, n7, c7, x7, d7, B7, m7, e7, y7, rfl⟩ := hq.ex
     replace hq := hq.lower r17.fs
     have hab := ab_step hp ha ha2 hi2 f2 hf
     refine ⟨[.bool b7, .slice A7 n7 c7, .int .i64 x7, .bool d7, .slice B7 m7 e7, .int .i64 y7], rfl, rfl, rfl, k7, ?_⟩
     intro _ _ _ r18 S18
     refine rk (Ruh74_29 jj1) [.mv (bo .add (vi 24) (li 1))] (Fuh74_28 jj1) Buh74_27 S18 r18 ?_
     intro _ _ _ r19 S19
     exact ⟨_, (by omega), ⟨jv S19 Juh74_22, _, _, _, _, _, _, _, _, _, _, _, i + 1, _, _, _, rfl, r19.first, St.to S19 [0, 1, 2] (by kernel_rfl) (by kernel_rfl) (by decide) rfl, (fit_ab hp hp2 hs2 ha ha2 hi2 (hq.lat (r19.at_ 1 _ rfl)) sq1 sq2 hab), hab, hi2, (i64_id (by omega) (by omega))⟩⟩
   · have hend : i = s := by have := of_decide_eq_false q2; rw [hs1] at this; omega
     refine wp_exit (then_exit (then_exit (exit_in ?_)))
     refine wp_seq (rk (Ruh74_31 jj1) [.st 1 0 (i6 18)] (Fuh74_30 jj1) Buh74_32 S16 r16 ?_)
     intro a17 g17 W17 r17 S17
     exact rt S17 [.agg #[.bool y1, .slice yA yn yc, .int .i64 yx, .bool z1, .slice zA zn zc, .int .i64 zx]] (⟨_, _, _, rfl, (f1.lat (r17.at_ 0 _ rfl)), ab_end hend f2, r17.first⟩)
 · have h0 : a = 0 := of_decide_eq_true (by simpa using q1)
   obtain ⟨s, hs0⟩ : ∃ s : Nat, s = 0 := ⟨0, rfl⟩
   have hs2 : s ≤ 23 := by omega
   have hsm : 256 * (a * (2 : Rat) ^ (-(s : Int))) ≤ 1 := by rw [h0, Rat.zero_mul]; decide +kernel
   have hw : IntKind.i64.wrap (IntKind.i64.wrap ((p : Int) + 0) + 64) = ((p + 2 * s + 64 : Nat) : Int) := by rw [hs0, i64_id (x := (p : Int) + 0) (by omega) (by omega), i64_id (by omega) (by omega)]; omega
   have hw8 : IntKind.i64.wrap (IntKind.i64.wrap (IntKind.i64.wrap ((p : Int) + 0) + 64) + 8) = ((p + 2 * s + 64 + 8 : Nat) : Int) := by rw [hw, i64_id (by omega) (by omega)]; rfl
   have hns : IntKind.i64.wrap (0 - 0) = -(s : Int) := by rw [hs0]; decide
   refine wp_skip ?_
   refine wp_seq (rk Ruh74_34 [] Fuh74_33 Buh74_2 S4 r4 ?_)
   intro _ g5 W5 r5 S5
   refine wp_seq (rk Ruh74_36 [] Fuh74_35 Buh74_2 S5 r5 ?_)
   intro W6 g6 r6 _
   show Calls Tryz.prog 114 #[.agg #[.bool b0, .slice A0 n0 c0, .int .i64 x0], .int .i64 (IntKind.i64.wrap (0 - 0))] W6 _
   rw [hns]
   refine (dtwice_q (K := 23) (-(s : Int)) (h.below r6.first) (by omega) (by omega) (by decide) (tb hT r6)).mono ?_
   rintro _ V8 ⟨v, rfl, htw, k8⟩
   obtain ⟨b8, A8, n8, c8, x8, rfl⟩ := htw.ex
   replace htw := htw.lower r6.fs
   refine ⟨[.bool b8, .slice A8 n8 c8, .int .i64 x8], rfl, rfl, rfl, k8, ?_⟩
   have ha0 : 0 ≤ a * (2 : Rat) ^ (-(s : Int)) := Rat.mul_nonneg ha (Rat.le_of_lt (Dv_pow_pos _))
   intro W7 g7 r7 _
   show Calls Tryz.prog 87 #[.agg #[.bool b8, .slice A8 n8 c8, .int .i64 x8], .int .i64 (IntKind.i64.wrap ((IntKind.i64.wrap ((p : Int) + 0)) + 64))] W7 _
   rw [hw]
   refine (dfixed_n (q := p + 2 * s + 64) (htw.lat (r7.at_ 1 _ rfl)).c ha0 (by omega) (by omega) (tb hT r7)).mono ?_
   rintro _ V9 ⟨v, r, rfl, hfx, r1, r2, k9⟩
   obtain ⟨A9, n9, c9, rfl⟩ := hfx.ex
   replace hfx := hfx.lower r7.fs
   have hr := fix_256 hsm r1
   refine ⟨[.slice A9 n9 c9], rfl, rfl, rfl, k9, ?_⟩
   intro W8 g8 r8 _
   show Calls Tryz.prog 86 #[.slice A9 n9 c9, .int .i64 (IntKind.i64.wrap ((IntKind.i64.wrap ((p : Int) + 0)) + 64)), .int .u64 0] W8 _
   rw [hw]
   refine (dsmall_n (m := 0) (q := p + 2 * s + 64) (hfx.lat (r8.at_ 2 _ rfl)).c hr (by omega) (by omega) (by decide) (tb hT r8)).mono ?_
   rintro _ V10 ⟨v1, v2, n, rfl, hsa, hsb, te1, te2, te3, k10⟩
   obtain ⟨A10, n10, c10, rfl⟩ := hsa.ex
   obtain ⟨B10, m10, d10, rfl⟩ := hsb.ex
   replace hsa := hsa.lower r8.fs
   replace hsb := hsb.lower r8.fs
   have hsml := dsml (by omega) (by omega) ha0 hsm r1 r2 te1 te2 te3
   have hbl := dsml_bl (m := 0) (q := p + 2 * s + 64) (by omega) (by omega) hr te2
   refine ⟨[.slice A10 n10 c10, .slice B10 m10 d10], rfl, rfl, rfl, k10, ?_⟩
   intro _ g9 W9 r9 S9
   refine wp_seq (rk Ruh74_38 [.st 2 0 (i6 11)] Fuh74_37 Buh74_39 S9 r9 ?_)
   intro W10 g10 r10 _
   show Calls Tryz.prog 88 #[.slice A10 n10 c10, .slice B10 m10 d10, .int .i64 (IntKind.i64.wrap ((IntKind.i64.wrap ((p : Int) + 0)) + 64))] W10 _
   rw [hw]
   refine (dspan_w (q := p + 2 * s + 64) (hsa.lat (r10.at_ 3 _ rfl)).c (hsb.lat (r10.at_ 3 _ rfl)).c hbl.1 hbl.2 (by omega) (tb hT r10)).mono ?_
   rintro _ V11 ⟨v, rfl, hsp, k11⟩
   obtain ⟨b11, A11, n11, c11, x11, d11, B11, m11, e11, y11, rfl⟩ := hsp.ex
   replace hsp := hsp.lower r10.fs
   refine ⟨[.bool b11, .slice A11 n11 c11, .int .i64 x11, .bool d11, .slice B11 m11 e11, .int .i64 y11], rfl, rfl, rfl, k11, ?_⟩
   intro a11 g11 W11 r11 S11
   refine wp_seq ?_
   refine wp_seq (rk Ruh74_41 [] Fuh74_40 Buh74_39 S11 r11 ?_)
   intro _ g12 W12 r12 S12
   refine wp_block ?_
   refine wp_loop_n (fun nn aa WW => ∃ (jj2 : List Value) (y1 z1 : Bool) (yA zA : Option Addr) (yn yc zn zc : Nat) (yx zx ii : Int) (i : Nat) (lo hi : Rat) (gg : Nat → Nat), nn = s - i ∧ BL w WW ∧ St w (Luh74_42 jj2) Buh74_43 [.bool b0, .slice A0 n0 c0, .int .i64 x0, .int .i64 (p : Int), .bool (decide (a = 0)), .bool b8, .slice A8 n8 c8, .int .i64 x8, .slice A9 n9 c9, .slice A10 n10 c10, .slice B10 m10 d10, .bool b11, .slice A11 n11 c11, .int .i64 x11, .bool d11, .slice B11 m11 e11, .int .i64 y11, .bool y1, .slice yA yn yc, .int .i64 yx, .bool z1, .slice zA zn zc, .int .i64 zx, .int .i64 ii] gg aa WW ∧ PI WW w.heap.size (.agg #[.bool y1, .slice yA yn yc, .int .i64 yx, .bool z1, .slice zA zn zc, .int .i64 zx]) lo hi 32768 ∧ Ab (p + 50 + 2 * (s - i)) (a * (2 : Rat) ^ ((i : Int) - (s : Int))) lo hi ∧ i ≤ s ∧ ii = (i : Int)) ⟨jv S12 Juh74_22, _, _, _, _, _, _, _, _, _, _, _, 0, _, _, _, rfl, r12.first, St.to S12 [0, 1, 2] (by kernel_rfl) (by kernel_rfl) (by decide) rfl, ((hsp.lat (r12.at_ 4 _ rfl)).more (by omega)), (Ab.start hp hs2 hsml), Nat.zero_le _, rfl⟩ ?_
   rintro _ a13 W13 ⟨jj2, y1, z1, yA, zA, yn, yc, zn, zc, yx, zx, ii, i, lo, hi, g13, rfl, b13, S13, f1, f2, f3, f4⟩
   have r13 : Reach 64 w [W13] W13 := .of_below b13
   subst f4
   refine wp_seq ?_
   refine wp_seq (rk (Ruh74_45 jj2) [] (Fuh74_44 jj2) Buh74_43 S13 r13 ?_)
   intro a14 g14 W14 r14 S14
   refine wp_cond_split (t := decide ((i : Int) < 0)) (S14.cnd (by kernel_rfl)) (fun q3 => ?_) (fun q3 => ?_)
   · have hi2 : i + 1 ≤ s := by have := of_decide_eq_true q3; omega
     refine wp_skip ?_
     refine wp_seq ?_
     refine wp_block ?_
     refine rk (Ruh74_47 jj2) [.st 2 0 (i6 24)] (Fuh74_46 jj2) Buh74_48 S14 r14 ?_
     intro W15 g15 r15 _
     show Calls Tryz.prog 31 #[.agg #[.bool y1, .slice yA yn yc, .int .i64 yx, .bool z1, .slice zA zn zc, .int .i64 zx], .agg #[.bool y1, .slice yA yn yc, .int .i64 yx, .bool z1, .slice zA zn zc, .int .i64 zx], .int .i64 (IntKind.i64.wrap ((IntKind.i64.wrap ((IntKind.i64.wrap ((p : Int) + 0)) + 64)) + 8))] W15 _
     rw [hw8]
     refine (dtimes_i (p := p + 2 * s + 64 + 8) (f1.lat (r15.at_ 0 _ rfl)).c (f1.lat (r15.at_ 0 _ rfl)).c (by omega) (by omega) (by omega) (tb hT r15)).mono ?_
     rintro _ V12 ⟨v, l, u, rfl, hq, hf, sq1, sq2, k12⟩
     obtain ⟨b12, A12, n12, c12, x12, d12, B12, m12, e12, y12, rfl⟩ := hq.ex
     replace hq := hq.lower r15.fs
     have hab := ab_step hp ha ha2 hi2 f2 hf
     refine ⟨[.bool b12, .slice A12 n12 c12, .int .i64 x12, .bool d12, .slice B12 m12 e12, .int .i64 y12], rfl, rfl, rfl, k12, ?_⟩
     intro a16 g16 W16 r16 S16
     refine rk (Ruh74_50 jj2) [.mv (bo .add (vi 23) (li 1))] (Fuh74_49 jj2) Buh74_48 S16 r16 ?_
     intro a17 g17 W17 r17 S17
     exact ⟨_, (by omega), ⟨jv S17 Juh74_22, _, _, _, _, _, _, _, _, _, _, _, i + 1, _, _, _, rfl, r17.first, St.to S17 [0, 1, 2] (by kernel_rfl) (by kernel_rfl) (by decide) rfl, (fit_ab hp hp2 hs2 ha ha2 hi2 (hq.lat (r17.at_ 1 _ rfl)) sq1 sq2 hab), hab, hi2, (i64_id (by omega) (by omega))⟩⟩
   · have hend : i = s := by omega
     refine wp_exit (then_exit (then_exit (exit_in ?_)))
     refine wp_seq (rk (Ruh74_52 jj2) [.st 1 0 (i6 17)] (Fuh74_51 jj2) Buh74_53 S14 r14 ?_)
     intro a15 g15 W15 r15 S15
     exact rt S15 [.agg #[.bool y1, .slice yA yn yc, .int .i64 yx, .bool z1, .slice zA zn zc, .int .i64 zx]] (⟨_, _, _, rfl, (f1.lat (r15.at_ 0 _ rfl)), ab_end hend f2, r15.first⟩)
theorem norm_all (l : List Nat) (A : Option Addr) (c : Nat) (w : World) (hr : kU.C w A l.length l) (hc : l.length ≤ c) (hw : Wf l) (hl0 : (limbs (nv l)).length ≤ 4294967296) :
 Calls Tryz.prog 89 #[.slice A l.length c] w fun e w' => ∃ v, e = .returned v ∧ kU.R 64 w' w.heap.size (fun _ => True) v (limbs (nv l)) ∧ BL w w' := by
 have hl : l.length ≤ 9223372036854775807 := Kd.C_max hr
 have HR := yk hr
 have HW := yk hw
 clear hr hw
 go_enter Tryz.func89, Tryz.ntmps89
 go_wp2
 go_loopw [3] (fun i wr => ∃ k : Nat, i = .int .i64 k ∧ k ≤ l.length ∧ Aside0 (∃ n, wr = w.drewN n) ∧ Aside0 (∀ j x, k ≤ j → l[j]? = some x → x = 0)) (fun i _ => (intOf i).toNat)
 case atStart => exact ⟨l.length, rfl, Nat.le_refl _, ⟨⟨0, rfl⟩⟩, ⟨fun j x hj hx => by rw [List.getElem?_eq_none hj] at hx; cases hx⟩⟩
 case round =>
  obtain ⟨k, rfl, hk, HWR, HG⟩ := hrel
  obtain ⟨nw, rfl⟩ := HWR.out
  clear HWR
  have hkc : k ≤ c := by omega
  have HBB := yk (pw_below_drewN (Below.refl w.heap.size w) nw)
  by_cases hk0 : k = 0
  · have HK := yk (limbs_take HW.out hk HG.out (fun h => by omega))
    have hkn : k ≤ 0 := by omega
    have hkd2 : decide (0 < k) = false := decide_eq_false (by omega)
    have hkd : decide (0 < (k : Int)) = false := decide_eq_false (by omega)
    have hsl := run_to l.length A c k hc hk
    have hkl : k ≤ 4294967296 := by omega
    clear hk0
    go_wp2_with ((with_reducible refine gate_builtin (b := .append) (xs := #[.tmp 19, .tmp 22]) rfl ?_); at_builtin; go_must (refine Kd.R_append_row (fun n : Nat => Value.int .u64 (n : Int)) 0 (h1 := fun _ => rfl) (w0 := w) w.heap.size rfl (.tmp 19) (.tmp 22) 23 64 (.int .u64 0) 8 rfl Tryz.underlying23 info_word rfl (by decide) (.slice none 0 0) [] (l.take k) A k c (fun _ => True) rfl rfl (fun _ _ => trivial) (Kd.R_nil _ _ _ _ _) ?hC (HBB.out) HBB.out.size ?hl ?_; (case hC => exact C_take (Kd.C_below HR.out HBB.out) k hk); (case hl => simp; omega); intro v1 w1 ho hb _ _; rw [List.nil_append, ← HK.out] at ho; have HO' := yk ho; have HB' := yk hb; clear ho hb))
    go_ret
    exact ⟨_, rfl, HO'.out, HB'.out⟩
  · have hkd : decide (0 < (k : Int)) = true := decide_eq_true (by omega)
    have hkp : 0 < k := by omega
    obtain ⟨ad, x, rfl, hx0, hcell⟩ := at_word HR.out rfl (k - 1) (by omega)
    have hx := yk hx0
    have e1 : IntKind.i64.wrap ((k : Int) - 1) = (k : Int) - 1 := by unfold IntKind.wrap; simp [IntKind.bits, IntKind.signed]; omega
    have e2 : ((k : Int) - 1).toNat = k - 1 := by omega
    have e3 : 0 ≤ (k : Int) - 1 := by omega
    have e4 : (k : Int) - 1 < l.length := by omega
    clear hx0 hk0
    by_cases hz : x = 0
    · subst hz
      go_wp2
      go_roundw
      case rel =>
       refine ⟨k - 1, by rw [show ((k - 1 : Nat) : Int) = (k : Int) - 1 by omega], by omega, ⟨⟨nw, rfl⟩⟩, ⟨fun j y hj hy => ?_⟩⟩
       by_cases hjk : j = k - 1
       · subst hjk
         have := hx.out
         rw [hy] at this
         exact Option.some.inj this
       · exact HG.out j y (by omega) hy
      case measure => simp [intOf]; omega
    · have HK := yk (limbs_take HW.out hk HG.out (fun _ => ⟨x, hx.out, hz⟩))
      have hxz : ((x : Int) == 0) = false := by simp; exact hz
      have hsl := run_to l.length (some ad) c k hc hk
      have hkl : k ≤ 4294967296 := by rw [HK.out, List.length_take] at hl0; omega
      clear hz
      go_wp2_with ((with_reducible refine gate_builtin (b := .append) (xs := #[.tmp 19, .tmp 22]) rfl ?_); at_builtin; go_must (refine Kd.R_append_row (fun n : Nat => Value.int .u64 (n : Int)) 0 (h1 := fun _ => rfl) (w0 := w) w.heap.size rfl (.tmp 19) (.tmp 22) 23 64 (.int .u64 0) 8 rfl Tryz.underlying23 info_word rfl (by decide) (.slice none 0 0) [] (l.take k) (some ad) k c (fun _ => True) rfl rfl (fun _ _ => trivial) (Kd.R_nil _ _ _ _ _) ?hC (HBB.out) HBB.out.size ?hl ?_; (case hC => exact C_take (Kd.C_below HR.out HBB.out) k hk); (case hl => simp; omega); intro v1 w1 ho hb _ _; rw [List.nil_append, ← HK.out] at ho; have HO' := yk ho; have HB' := yk hb; clear ho hb))
      go_ret
      exact ⟨_, rfl, HO'.out, HB'.out⟩
theorem norm_n {v : Value} {m : Nat} {w : World} (h : AN w v m) (hm : bl m ≤ 4294967296) :
 Calls Tryz.prog 89 #[v] w fun e w' => ∃ v, e = .returned v ∧ PN w' w.heap.size v m ∧ BL w w' := by
 obtain ⟨A, n, c, l, rfl, h2, rfl, h4, h5, h6⟩ := h
 have := norm_all l A c w h2 h4 h5 (by rw [h6]; have := len_le (K := 67108864) hm; omega)
 rw [h6] at this
 exact this.mono (by rintro e w' ⟨v, rfl, h, hb⟩; exact ⟨v, rfl, PL.of_R h, hb⟩)
theorem low_d {w : World} {v : Value} {m : Nat} (h : CN w v m) (hm : bl m ≤ 4294967296) :
 Calls Tryz.prog 91 #[v] w fun e w' => e = .returned (.int .i64 (tz m : Int)) ∧ BL w w' := by
 obtain ⟨A, n, c, rfl, h1, rfl, h3⟩ := h
 have hl := len_le (K := 67108864) hm
 have := low_any (limbs m) A c w h1 h3 (wf_limbs _) (by omega)
 rw [nv_limbs] at this
 exact this
def Fui46_0 := [vb 0, vs 1, vi 2, U, U, U, U, U, U, U, U, U, U, U, U, U, U, U, U, U, U, U, U, U, U, U, U, U, U, U, U]
def Fui46_1 := fs Fui46_0 [(6, ps 0 0)]
def Bui46_2 := [bb 25 o3]
def Rui46_3 : Rg := ⟨1, 3, 0, Fui46_0, Bui46_2, [pa 0 0], []⟩
def Fui46_4 := fs Fui46_1 [(7, vs 3), (11, vs 1), (12, vs 3)]
def Rui46_5 : Rg := ⟨3, 3, 1, Fui46_1, Bui46_2, [pv (vs 1) 0, pc (vs 3) 0 89 [vs 1] 1, pv (vs 3) 1], [1]⟩
def Fui46_6 := fs Fui46_4 [(13, vs 3), (14, f1 lnF (vs 3)), (15, bo .eql (f1 lnF (vs 3)) (li 0))]
def Rui46_7 : Rg := ⟨3, 4, 1, Fui46_4, Bui46_2, [pv (vs 3) 0, pv (f1 lnF (vs 3)) 0, pv (bo .eql (f1 lnF (vs 3)) (li 0)) 0], []⟩
def Fui46_8 := fs Fui46_6 [(16, ag o3)]
def Rui46_9 : Rg := ⟨1, 4, 1, Fui46_6, Bui46_2, [pv (ag o3) 0], []⟩
def Fui46_10 := fs Fui46_6 [(8, vi 4), (17, vs 3), (18, vi 4)]
def Rui46_11 : Rg := ⟨3, 4, 1, Fui46_6, Bui46_2, [pv (vs 3) 0, pc (vi 4) 0 91 [vs 3] 1, pv (vi 4) 1], [1]⟩
def Fui46_12 := fs Fui46_10 [(9, vs 5), (10, vb 6), (19, tu [vs 5, vb 6]), (20, vs 3), (21, vi 4), (22, tu [vs 5, vb 6]), (23, vs 5), (24, vb 6)]
def Rui46_13 : Rg := ⟨8, 5, 1, Fui46_10, Bui46_2, [pv (vs 3) 0, pv (vi 4) 0, pc (tu [vs 5, vb 6]) 0 92 [vs 3, vi 4] 2, pv (tu [vs 5, vb 6]) 1, pv (vs 5) 1, pv (vb 6) 1, pv (vs 5) 1, pv (vb 6) 1], [2]⟩
def Fui46_14 := fs Fui46_12 [(25, vb 0), (26, vs 5), (27, vi 2), (28, vi 4), (29, bo .add (vi 2) (vi 4)), (30, ag [vb 0, vs 5, bo .add (vi 2) (vi 4)])]
def Rui46_15 : Rg := ⟨6, 7, 1, Fui46_12, Bui46_2, [pv (vb 0) 0, pv (vs 5) 0, pv (vi 2) 0, pv (vi 4) 0, pv (bo .add (vi 2) (vi 4)) 0, pv (ag [vb 0, vs 5, bo .add (vi 2) (vi 4)]) 0], []⟩
def Bui46_16 := [bb 25 [vb 0, vs 5, bo .add (vi 2) (vi 4)]]
theorem dform_all {v : Value} {m : Nat} (neg : Bool) (x : Int) {w : World} (h : AN w v m) (hm : bl m ≤ 4294967296) (h1 : -1099511627776 ≤ x) (h2 : x ≤ 1099511627776) :
 Calls Tryz.prog 46 #[.bool neg, v, .int .i64 x] w fun e w' => ∃ v, e = .returned v ∧ PDy w' w.heap.size v (sgn neg m) x ∧ BL w w' := by
 obtain ⟨A0, n0, c0, rfl⟩ := h.ex
 refine fn_enter (u := 64) (fn := Tryz.f46) Tryz.func46 rfl Fui46_0 [.bool neg, .slice A0 n0 c0, .int .i64 x] (by kernel_rfl) rfl (fun a0 S0 r0 => ?_)
 refine wp_seq (rk Rui46_3 [] Fui46_1 Bui46_2 S0 r0 ?_)
 intro _ _ _ r1 S1
 refine wp_seq (rk Rui46_5 [] Fui46_4 Bui46_2 S1 r1 ?_)
 intro _ _ r2 _
 refine (norm_n (h.below r2.first) hm).mono ?_
 rintro _ V1 ⟨v, rfl, hn, k1⟩
 obtain ⟨A1, n1, c1, rfl⟩ := hn.ex
 replace hn := hn.lower r2.fs
 refine ⟨[.slice A1 n1 c1], rfl, rfl, rfl, k1, ?_⟩
 have hlen := hn.len
 intro _ _ _ r3 S3
 refine wp_seq ?_
 refine wp_seq (rk Rui46_7 [] Fui46_6 Bui46_2 S3 r3 ?_)
 intro _ _ _ r4 S4
 refine wp_cond_split (t := ((n1 : Nat) : Int) == 0) (S4.cnd (by kernel_rfl)) (fun q1 => ?_) (fun q1 => ?_)
 · have hm0 : m = 0 := by rw [hlen] at q1; exact len_zero q1
   refine wp_seq (rk Rui46_9 [.st 0 0 o3] Fui46_8 Bui46_2 S4 r4 ?_)
   intro _ g5 W5 r5 S5
   exact wp_ret (then_ret (ret_ok S5 [.agg #[.bool false, .slice none 0 0, .int .i64 0]] (by kernel_rfl) (⟨_, rfl, by rw [hm0, sgn_zero]; exact .zero0 _ _ _, r5.first⟩)))
 · have hm0 : m ≠ 0 := fun h => by rw [hlen, h] at q1; simp [limbs] at q1
   refine wp_skip ?_
   refine wp_seq (rk Rui46_11 [] Fui46_10 Bui46_2 S4 r4 ?_)
   intro W5 g5 r5 _
   refine (low_d (hn.lat (r5.at_ 0 _ rfl)).c hm).mono ?_
   rintro _ V2 ⟨rfl, k2⟩
   refine ⟨[.int .i64 (tz m : Int)], rfl, rfl, rfl, k2, ?_⟩
   intro _ _ _ r6 S6
   refine wp_seq (rk Rui46_13 [] Fui46_12 Bui46_2 S6 r6 ?_)
   intro _ _ r7 _
   refine (shr_d _ (tz m) rfl (hn.lat (r7.at_ 0 _ rfl)).c hm (by have := tz_le_bl hm0; omega)).mono ?_
   rintro _ V3 ⟨v, rfl, h3, k3⟩
   obtain ⟨A3, n3, c3, rfl⟩ := h3.ex
   replace h3 := h3.lower r7.fs
   refine ⟨[.slice A3 n3 c3, .bool (m % 2 ^ tz m != 0)], rfl, rfl, rfl, k3, ?_⟩
   intro _ _ _ r8 S8
   refine wp_seq (rk Rui46_15 [.st 0 0 [vb 0, vs 5, bo .add (vi 2) (vi 4)]] Fui46_14 Bui46_16 S8 r8 ?_)
   intro _ _ _ r9 S9
   exact rt S9 [.agg #[.bool neg, .slice A3 n3 c3, .int .i64 (IntKind.i64.wrap (x + (tz m : Int)))]] (⟨_, rfl, .of_cells (h3.lat (r9.at_ 2 _ rfl)) hm0 (i64_id (by have := tz_le_bl hm0; omega) (by have := tz_le_bl hm0; omega)), r9.first⟩)
def Fui44_0 := [dg 0, U, U, U, U, U, U, U, U, U]
def Fui44_1 := fs Fui44_0 [(1, ps 0 0), (2, ps 1 0)]
def Bui44_2 := [bb 25 (d3 0), bb 25 o3]
def Rui44_3 : Rg := ⟨2, 3, 0, Fui44_0, Bui44_2, [pa 0 0, pa 1 0], []⟩
def Fui44_4 := fs Fui44_1 [(3, ps 0 0), (4, vb 0), (5, ps 0 1), (6, vs 1), (7, ps 0 2), (8, vi 2), (9, dg 3)]
def Rui44_5 : Rg := ⟨7, 3, 2, Fui44_1, Bui44_2, [pv (ps 0 0) 0, pl (vb 0) 0 0 0, pv (ps 0 1) 0, pl (vs 1) 0 0 1, pv (ps 0 2) 0, pl (vi 2) 0 0 2, pc (dg 3) 0 46 (d3 0) 3], [6]⟩
def Bui44_6 := [bb 25 (d3 0), bb 25 (d3 3)]
theorem done_all {v : Value} {s : Bool} {m : Nat} {x : Int} {w : World} (h : ADy w v s m x) (hm : bl m ≤ 4294967296) (h1 : -1099511627776 ≤ x) (h2 : x ≤ 1099511627776) :
 Calls Tryz.prog 44 #[v] w fun en w' => ∃ v', en = .returned v' ∧ PDy w' w.heap.size v' (sgn s m) x ∧ BL w w' := by
 obtain ⟨A0, n0, c0, rfl, h⟩ := h
 have h : ADy w (.agg #[.bool s, .slice A0 n0 c0, .int .i64 x]) s m x := ⟨_, _, _, rfl, h⟩
 refine fn_enter (u := 64) (fn := Tryz.f44) Tryz.func44 rfl Fui44_0 [.bool s, .slice A0 n0 c0, .int .i64 x] (by kernel_rfl) rfl (fun a0 S0 r0 => ?_)
 refine wp_seq (rk Rui44_3 [] Fui44_1 Bui44_2 S0 r0 ?_)
 intro _ _ _ r1 S1
 refine wp_seq (rk Rui44_5 [.st 1 0 (d3 3)] Fui44_4 Bui44_6 S1 r1 ?_)
 intro _ _ r2 _
 refine (dform_all s x (h.below r2.first).n hm h1 h2).mono ?_
 rintro _ V1 ⟨v, rfl, h1, k1⟩
 obtain ⟨b1, A1, n1, c1, x1, rfl⟩ := h1.ex
 replace h1 := h1.lower r2.fs
 refine ⟨[.bool b1, .slice A1 n1 c1, .int .i64 x1], rfl, rfl, rfl, k1, ?_⟩
 intro _ _ _ r3 S3
 exact rt S3 [.agg #[.bool b1, .slice A1 n1 c1, .int .i64 x1]] (⟨_, rfl, (h1.lat (r3.at_ 0 _ rfl)), r3.first⟩)
theorem len_eq0 {m : Nat} : ((((limbs m).length : Nat) : Int) == 0) = decide (m = 0) := by
 by_cases h : m = 0
 · subst h; simp [limbs]
 · rw [decide_eq_false h]
   have : (limbs m).length ≠ 0 := fun q => h (limbs_zero_len.1 q)
   exact beq_eq_false_iff_ne.2 (by omega)
def Fui42_0 := [dg 0, U, U, U, U, U, U, U]
def Fui42_1 := fs Fui42_0 [(1, ps 0 0), (2, lb false)]
def Bui42_2 := [bb 25 (d3 0)]
def Rui42_3 : Rg := ⟨2, 3, 0, Fui42_0, Bui42_2, [pa 0 0, pv (lb false) 0], []⟩
def Fui42_4 := fs Fui42_1 [(2, bo .eql (f1 lnF (vs 3)) (li 0)), (3, ps 0 1), (4, vs 1), (5, vs 3), (6, f1 lnF (vs 3)), (7, bo .eql (f1 lnF (vs 3)) (li 0))]
def Rui42_5 : Rg := ⟨6, 3, 1, Fui42_1, Bui42_2, [pv (ps 0 1) 0, pl (vs 1) 0 0 1, pc (vs 3) 0 89 [vs 1] 1, pv (f1 lnF (vs 3)) 1, pv (bo .eql (f1 lnF (vs 3)) (li 0)) 1, pv (bo .eql (f1 lnF (vs 3)) (li 0)) 1], [2]⟩
theorem dzero_all {v : Value} {s : Bool} {m : Nat} {x : Int} {w : World} (h : ADy w v s m x) (hm : bl m ≤ 4294967296) :
 Calls Tryz.prog 42 #[v] w fun en w' => en = .returned (.bool (decide (m = 0))) ∧ BL w w' := by
 obtain ⟨A0, n0, c0, rfl, h⟩ := h
 have h : ADy w (.agg #[.bool s, .slice A0 n0 c0, .int .i64 x]) s m x := ⟨_, _, _, rfl, h⟩
 refine fn_enter (u := 64) (fn := Tryz.f42) Tryz.func42 rfl Fui42_0 [.bool s, .slice A0 n0 c0, .int .i64 x] (by kernel_rfl) rfl (fun a0 S0 r0 => ?_)
 refine wp_seq (rk Rui42_3 [] Fui42_1 Bui42_2 S0 r0 ?_)
 intro _ _ _ r1 S1
 refine wp_seq (rk Rui42_5 [] Fui42_4 Bui42_2 S1 r1 ?_)
 intro _ _ r2 _
 refine (norm_n (h.below r2.first).n hm).mono ?_
 rintro _ V1 ⟨v, rfl, hn, k1⟩
 obtain ⟨A1, n1, c1, rfl⟩ := hn.ex
 replace hn := hn.lower r2.fs
 refine ⟨[.slice A1 n1 c1], rfl, rfl, rfl, k1, ?_⟩
 have hlen := hn.len
 intro _ _ _ r3 S3
 exact rt S3 [.bool (((n1 : Nat) : Int) == 0)] (⟨by rw [hlen, len_eq0]; rfl, r3.first⟩)
theorem cman_ab (z : Int) : cman (z.natAbs : Int) = cman z := by unfold cman; rw [Int.natAbs_natCast]
theorem cexp_ab (z e : Int) : cexp (z.natAbs : Int) e = cexp z e := by
 unfold cexp
 by_cases h : z = 0
 · rw [if_pos h, if_pos (by omega)]
 · rw [if_neg h, if_neg (by omega), Int.natAbs_natCast]
theorem PDy.pos {w : World} {b n c : Nat} {z e : Int} {bb : Bool} {A : Option Addr} {x : Int} (h : PDy w b (.agg #[.bool bb, .slice A n c, .int .i64 x]) z e) : PDy w b (.agg #[.bool false, .slice A n c, .int .i64 x]) (z.natAbs : Int) e := by
 obtain ⟨h1, h2, h3⟩ := h.cells
 refine ⟨A, n, c, ?_, ?_⟩
 · rw [h2, cexp_ab, show cneg (z.natAbs : Int) = false from decide_eq_false (by omega)]
 · rw [cman_ab]; exact h3
theorem PDy.posq {w : World} {b n c N : Nat} {z e : Int} {bb : Bool} {A : Option Addr} {x : Int} (h : PDy w b (.agg #[.bool bb, .slice A n c, .int .i64 x]) z e) (hB : Bd N z e) : PQ w b (.agg #[.bool false, .slice A n c, .int .i64 x]) (ab (Dv z e)) N :=
 ⟨_, _, h.pos, ab_Dv z e, ⟨by rw [Int.natAbs_natCast]; exact hB.1, hB.2⟩⟩
theorem short_one {p : Nat} : Short p 1 := ⟨1, 0, by decide +kernel, Nat.one_le_two_pow⟩
def Fui35_0 := [dg 0, vi 3, U, U, U, U, U, U, U, U, U, U, U, U, U, U, U, U, U, U, U, U, U]
def Fui35_1 := fs Fui35_0 [(2, ps 0 0), (4, ps 1 0)]
def Bui35_2 := [bb 25 (d3 0), bb 28 o6]
def Rui35_3 : Rg := ⟨2, 4, 0, Fui35_0, Bui35_2, [pa 0 0, pa 1 0], []⟩
def Fui35_4 := fs Fui35_1 [(5, ps 2 0), (8, dg 0), (9, dg 4)]
def Bui35_5 := [bb 25 (d3 0), bb 28 o6, bb 25 o3]
def Rui35_6 : Rg := ⟨3, 4, 2, Fui35_1, Bui35_5, [pl (dg 0) 0 0 0, pc (dg 4) 0 44 [dg 0] 3, pa 2 0], [1]⟩
def Bui35_7 := [bb 25 (d3 0), bb 28 o6, bb 25 (d3 4)]
def Fui35_8 := fs Fui35_4 [(6, vb 4), (10, ps 2 0), (11, vb 4)]
def Rui35_9 : Rg := ⟨3, 7, 3, Fui35_4, Bui35_7, [pv (ps 2 0) 0, pl (vb 4) 0 2 0, pv (vb 4) 0], []⟩
def Fui35_10 := fs Fui35_8 [(12, ps 2 0)]
def Rui35_11 : Rg := ⟨1, 7, 3, Fui35_8, Bui35_7, [pv (ps 2 0) 0], []⟩
def Bui35_12 := [bb 25 (d3 0), bb 28 o6, bb 25 [lb false, vs 5, vi 6]]
def Fui35_13 := fs Fui35_10 [(7, ps 3 0), (13, ag [lb false, vs 5, vi 6]), (14, vi 3), (15, ig 7)]
def Bui35_14 := [bb 25 (d3 0), bb 28 o6, bb 25 [lb false, vs 5, vi 6], bb 28 o6]
def Rui35_15 : Rg := ⟨4, 7, 3, Fui35_10, Bui35_14, [pl (ag [lb false, vs 5, vi 6]) 0 2 0, pv (vi 3) 0, pc (ig 7) 0 74 [ag [lb false, vs 5, vi 6], vi 3] 6, pa 3 0], [2]⟩
def Bui35_16 := [bb 25 (d3 0), bb 28 o6, bb 25 [lb false, vs 5, vi 6], bb 28 (i6 7)]
def Fui35_17 := fs Fui35_13 [(16, vb 4)]
def Rui35_18 : Rg := ⟨1, 13, 4, Fui35_13, Bui35_16, [pv (vb 4) 0], []⟩
def Fui35_19 := fs Fui35_17 [(17, ig 13), (18, ig 7), (19, vi 3), (20, bo .add (vi 3) (li 64)), (21, ig 19)]
def Rui35_20 : Rg := ⟨5, 13, 4, Fui35_17, Bui35_16, [pc (ig 13) 0 76 [] 6, pl (ig 7) 0 3 0, pv (vi 3) 0, pv (bo .add (vi 3) (li 64)) 0, pc (ig 19) 1 75 [ig 13, ig 7, bo .add (vi 3) (li 64)] 6], [0, 4]⟩
def Bui35_21 := [bb 25 (d3 0), bb 28 (i6 19), bb 25 [lb false, vs 5, vi 6], bb 28 (i6 7)]
def Fui35_22 := fs Fui35_17 [(22, ig 7)]
def Rui35_23 : Rg := ⟨1, 13, 4, Fui35_17, Bui35_16, [pl (ig 7) 0 3 0], []⟩
def Bui35_24 := [bb 25 (d3 0), bb 28 (i6 7), bb 25 [lb false, vs 5, vi 6], bb 28 (i6 7)]
theorem dany_q {v : Value} {s : Bool} {m : Nat} {x : Int} {p : Nat} {w : World} (h : ADy w v s m x) (hm : bl m ≤ 131072) (h1 : -131072 ≤ x) (h2 : x ≤ 131072) (ht : -16384 ≤ Dv (sgn s m) x) (ht2 : Dv (sgn s m) x ≤ 16384) (hp : 8 ≤ p) (hp2 : p ≤ 5000) (hT : TB w) :
 Calls Tryz.prog 35 #[v, .int .i64 (p : Int)] w fun en w' => ∃ v' l u, en = .returned v' ∧ PI w' w.heap.size v' l u 200000 ∧ Enc l u (Dv (sgn s m) x) (ep (p + 49)) ∧ BL w w' := by
 obtain ⟨A0, n0, c0, rfl, h⟩ := h
 have h : ADy w (.agg #[.bool s, .slice A0 n0 c0, .int .i64 x]) s m x := ⟨_, _, _, rfl, h⟩
 obtain ⟨t, et⟩ : ∃ t, t = Dv (sgn s m) x := ⟨_, rfl⟩
 rw [← et] at ht ht2 ⊢
 have hB : Bd 131072 (sgn s m) x := bd_of hm (by omega) (by omega)
 have hw : IntKind.i64.wrap ((p : Int) + 64) = ((p + 64 : Nat) : Int) := i64_id (by omega) (by omega)
 refine fn_enter (u := 64) (fn := Tryz.f35) Tryz.func35 rfl Fui35_0 [.bool s, .slice A0 n0 c0, .int .i64 x, .int .i64 (p : Int)] (by kernel_rfl) rfl (fun a0 S0 r0 => ?_)
 refine wp_seq (rk Rui35_3 [] Fui35_1 Bui35_2 S0 r0 ?_)
 intro _ _ _ r1 S1
 refine wp_seq (rk Rui35_6 [.st 2 0 (d3 4)] Fui35_4 Bui35_7 S1 r1 ?_)
 intro _ _ r2 _
 refine (done_all (h.below r2.first) (by omega) (by omega) (by omega)).mono ?_
 rintro _ V1 ⟨v, rfl, h1, k1⟩
 obtain ⟨b1, A1, n1, c1, x1, rfl⟩ := h1.ex
 replace h1 := h1.lower r2.fs
 refine ⟨[.bool b1, .slice A1 n1 c1, .int .i64 x1], rfl, rfl, rfl, k1, ?_⟩
 have hb1 := (PDy.cells h1).1
 have ho : PQ _ w.heap.size _ t 131072 := ⟨_, _, h1, et, hB⟩
 have hpz := h1.posq hB
 rw [← et] at hpz
 intro _ _ _ r3 S3
 refine wp_seq (rk Rui35_9 [] Fui35_8 Bui35_7 S3 r3 ?_)
 intro _ _ _ r4 S4
 refine wp_seq (rk Rui35_11 [.st 2 0 [lb false]] Fui35_10 Bui35_12 S4 r4 ?_)
 intro _ _ _ r5 S5
 refine wp_seq (rk Rui35_15 [.st 3 0 (i6 7)] Fui35_13 Bui35_16 S5 r5 ?_)
 intro _ _ r6 _
 refine (dpos_q (hpz.lat (r6.at_ 0 _ rfl)).c (ab_nonneg t) (ab_le ht ht2) (by omega) hp hp2 (tb hT r6)).mono ?_
 rintro _ V2 ⟨v, l, u, rfl, h2, f2, k2⟩
 obtain ⟨b2, A2, n2, c2, x2, d2, B2, m2, e2, y2, rfl⟩ := h2.ex
 replace h2 := h2.lower r6.fs
 refine ⟨[.bool b2, .slice A2 n2 c2, .int .i64 x2, .bool d2, .slice B2 m2 e2, .int .i64 y2], rfl, rfl, rfl, k2, ?_⟩
 intro _ _ _ r7 S7
 refine wp_seq ?_
 refine wp_seq (rk Rui35_18 [] Fui35_17 Bui35_16 S7 r7 ?_)
 intro _ _ _ r8 S8
 refine wp_cond_split (t := b1) (S8.cnd (by kernel_rfl)) (fun q1 => ?_) (fun q1 => ?_)
 · have htn : t ≤ 0 := by rw [et]; exact neg_le (by rw [← hb1]; exact q1)
   refine wp_seq (rk Rui35_20 [.st 1 0 (i6 19)] Fui35_19 Bui35_21 S8 r8 ?_)
   intro W9 g9 r9 _
   refine (deone_q _ (tb hT r9)).mono ?_
   rintro _ V3 ⟨v, rfl, h3, k3⟩
   obtain ⟨b3, A3, n3, c3, x3, d3, B3, m3, e3, y3, rfl⟩ := h3.ex
   replace h3 := h3.lower r9.fs
   refine ⟨[.bool b3, .slice A3 n3 c3, .int .i64 x3, .bool d3, .slice B3 m3 e3, .int .i64 y3], rfl, rfl, rfl, k3, ?_⟩
   intro W10 _ r10 _
   show Calls Tryz.prog 75 #[.agg #[.bool b3, .slice A3 n3 c3, .int .i64 x3, .bool d3, .slice B3 m3 e3, .int .i64 y3], .agg #[.bool b2, .slice A2 n2 c2, .int .i64 x2, .bool d2, .slice B2 m2 e2, .int .i64 y2], .int .i64 (IntKind.i64.wrap ((p : Int) + 64))] W10 _
   rw [hw]
   refine (ddivi_q (p := p + 64) (h3.lat (r10.at_ 2 _ rfl)).c (h2.lat (r10.at_ 1 _ rfl)).c (by decide +kernel) Rat.le_refl f2.nar.1 f2.le short_one short_one (by decide) (by omega) (by omega) (tb hT r10)).mono ?_
   rintro _ V4 ⟨v, l', u', rfl, h4, d1, d2, k4⟩
   obtain ⟨b4, A4, n4, c4, x4, d4, B4, m4, e4, y4, rfl⟩ := h4.ex
   replace h4 := h4.lower r10.fs
   have henc := inv_enc (t := t) (by rw [← ab_neg htn]; exact f2) htn d1 d2
   refine ⟨[.bool b4, .slice A4 n4 c4, .int .i64 x4, .bool d4, .slice B4 m4 e4, .int .i64 y4], rfl, rfl, rfl, k4, ?_⟩
   intro _ _ _ r11 S11
   exact wp_ret (then_ret (ret_ok S11 [.agg #[.bool b4, .slice A4 n4 c4, .int .i64 x4, .bool d4, .slice B4 m4 e4, .int .i64 y4]] (by kernel_rfl) (⟨_, _, _, rfl, (h4.lat (r11.at_ 3 _ rfl)).more (by omega), henc, r11.first⟩)))
 · have htp : 0 ≤ t := by rw [et]; exact neg_ge (by rw [← hb1]; exact q1)
   refine wp_skip ?_
   refine wp_seq (rk Rui35_23 [.st 1 0 (i6 7)] Fui35_22 Bui35_24 S8 r8 ?_)
   intro _ g9 W9 r9 S9
   exact rt S9 [.agg #[.bool b2, .slice A2 n2 c2, .int .i64 x2, .bool d2, .slice B2 m2 e2, .int .i64 y2]] (⟨_, _, _, rfl, (h2.lat (r9.at_ 1 _ rfl)).more (by omega), by have := f2.exs (ab_nonneg t); rw [ab_pos htp] at this; exact ⟨this.1, this.2.more (ep_le (by omega))⟩, r9.first⟩)
def Fui40_0 := [dg 0, vi 3, U, U, U, U, U, U, U, U, U, U, U, U, U, U, U, U, U, U, U, U, U, U, U, U, U, U, U, U, U, U, U, U, U, U, U, U, U, U, U, U, U, U, U, U, U, U, U, U, U, U, U, U, U, U, U]
def Fui40_1 := fs Fui40_0 [(2, ps 0 0), (4, ps 1 0)]
def Bui40_2 := [bb 25 (d3 0), bb 28 o6]
def Rui40_3 : Rg := ⟨2, 4, 0, Fui40_0, Bui40_2, [pa 0 0, pa 1 0], []⟩
def Fui40_4 := fs Fui40_1 [(5, ps 2 0), (11, dg 0), (12, dg 4)]
def Bui40_5 := [bb 25 (d3 0), bb 28 o6, bb 25 o3]
def Rui40_6 : Rg := ⟨3, 4, 2, Fui40_1, Bui40_5, [pl (dg 0) 0 0 0, pc (dg 4) 0 44 [dg 0] 3, pa 2 0], [1]⟩
def Bui40_7 := [bb 25 (d3 0), bb 28 o6, bb 25 (d3 4)]
def Fui40_8 := fs Fui40_4 [(13, dg 4), (14, vb 7)]
def Rui40_9 : Rg := ⟨2, 7, 3, Fui40_4, Bui40_7, [pl (dg 4) 0 2 0, pc (vb 7) 0 42 [dg 4] 1], [1]⟩
def Fui40_10 := fs Fui40_8 [(15, ag o6)]
def Rui40_11 : Rg := ⟨1, 8, 3, Fui40_8, Bui40_7, [pv (ag o6) 0], []⟩
def Fui40_12 := fs Fui40_8 [(16, dg 4), (17, vi 8), (18, bo .geq (vi 8) (li (-8)))]
def Rui40_13 : Rg := ⟨3, 8, 3, Fui40_8, Bui40_7, [pl (dg 4) 0 2 0, pc (vi 8) 0 43 [dg 4] 1, pv (bo .geq (vi 8) (li (-8))) 1], [1]⟩
def Fui40_14 := fs Fui40_12 [(19, dg 4), (20, vi 3), (21, bo .add (vi 3) (li 24)), (22, ig 9), (23, ig 15), (24, vi 3), (25, bo .add (vi 3) (li 40)), (26, ig 21)]
def Rui40_15 : Rg := ⟨8, 9, 3, Fui40_12, Bui40_7, [pl (dg 4) 0 2 0, pv (vi 3) 0, pv (bo .add (vi 3) (li 24)) 0, pc (ig 9) 0 35 [dg 4, bo .add (vi 3) (li 24)] 6, pc (ig 15) 1 76 [] 6, pv (vi 3) 0, pv (bo .add (vi 3) (li 40)) 0, pc (ig 21) 2 24 [ig 9, ig 15, bo .add (vi 3) (li 40)] 6], [3, 4, 7]⟩
def Bui40_16 := [bb 25 (d3 0), bb 28 (i6 21), bb 25 (d3 4)]
def Fui40_17 := fs Fui40_12 [(6, vb 4), (27, ps 2 0), (28, vb 4)]
def Rui40_18 : Rg := ⟨3, 9, 3, Fui40_12, Bui40_7, [pv (ps 2 0) 0, pl (vb 4) 0 2 0, pv (vb 4) 0], []⟩
def Fui40_19 := fs Fui40_17 [(29, ps 2 0)]
def Rui40_20 : Rg := ⟨1, 9, 3, Fui40_17, Bui40_7, [pv (ps 2 0) 0], []⟩
def Bui40_21 := [bb 25 (d3 0), bb 28 o6, bb 25 [lb false, vs 5, vi 6]]
def Fui40_22 := fs Fui40_19 [(7, bo .add (vi 3) (li 64)), (30, vi 3), (31, bo .add (vi 3) (li 64))]
def Rui40_23 : Rg := ⟨3, 9, 3, Fui40_19, Bui40_21, [pv (vi 3) 0, pv (bo .add (vi 3) (li 64)) 0, pv (bo .add (vi 3) (li 64)) 0], []⟩
def Fui40_24 := fs Fui40_22 [(8, vs 10), (9, vs 11), (32, tu [vs 10, vs 11]), (33, ag [lb false, vs 5, vi 6]), (34, bo .add (vi 3) (li 64)), (35, vs 9), (36, bo .add (vi 3) (li 64)), (37, tu [vs 10, vs 11]), (38, vs 10), (39, vs 11)]
def Rui40_25 : Rg := ⟨10, 9, 3, Fui40_22, Bui40_21, [pl (ag [lb false, vs 5, vi 6]) 0 2 0, pv (bo .add (vi 3) (li 64)) 0, pc (vs 9) 0 87 [ag [lb false, vs 5, vi 6], bo .add (vi 3) (li 64)] 1, pv (bo .add (vi 3) (li 64)) 0, pc (tu [vs 10, vs 11]) 1 86 [vs 9, bo .add (vi 3) (li 64), lu 1] 2, pv (tu [vs 10, vs 11]) 2, pv (vs 10) 2, pv (vs 11) 2, pv (vs 10) 2, pv (vs 11) 2], [2, 4]⟩
def Fui40_26 := fs Fui40_24 [(10, ps 3 0), (40, ag [lb false, vs 5, vi 6]), (41, ig 12), (42, vs 10), (43, vs 11), (44, bo .add (vi 3) (li 64)), (45, ig 18), (46, bo .add (vi 3) (li 64)), (47, ig 24)]
def Bui40_27 := [bb 25 (d3 0), bb 28 o6, bb 25 [lb false, vs 5, vi 6], bb 28 o6]
def Rui40_28 : Rg := ⟨9, 12, 3, Fui40_24, Bui40_27, [pl (ag [lb false, vs 5, vi 6]) 0 2 0, pc (ig 12) 0 20 [ag [lb false, vs 5, vi 6]] 6, pv (vs 10) 0, pv (vs 11) 0, pv (bo .add (vi 3) (li 64)) 0, pc (ig 18) 1 88 [vs 10, vs 11, bo .add (vi 3) (li 64)] 6, pv (bo .add (vi 3) (li 64)) 0, pc (ig 24) 2 31 [ig 12, ig 18, bo .add (vi 3) (li 64)] 6, pa 3 0], [1, 5, 7]⟩
def Bui40_29 := [bb 25 (d3 0), bb 28 o6, bb 25 [lb false, vs 5, vi 6], bb 28 (i6 24)]
def Fui40_30 := fs Fui40_26 [(48, vb 4)]
def Rui40_31 : Rg := ⟨1, 30, 4, Fui40_26, Bui40_29, [pv (vb 4) 0], []⟩
def Fui40_32 := fs Fui40_30 [(49, ig 24), (50, ag [lb false, vs 5, vi 6]), (51, vi 3), (52, ig 30), (53, bo .add (vi 3) (li 64)), (54, ig 36), (55, ig 42)]
def Rui40_33 : Rg := ⟨7, 30, 4, Fui40_30, Bui40_29, [pl (ig 24) 0 3 0, pl (ag [lb false, vs 5, vi 6]) 0 2 0, pv (vi 3) 0, pc (ig 30) 0 74 [ag [lb false, vs 5, vi 6], vi 3] 6, pv (bo .add (vi 3) (li 64)) 0, pc (ig 36) 1 75 [ig 24, ig 30, bo .add (vi 3) (li 64)] 6, pc (ig 42) 2 51 [ig 36] 6], [3, 5, 6]⟩
def Bui40_34 := [bb 25 (d3 0), bb 28 (i6 42), bb 25 [lb false, vs 5, vi 6], bb 28 (i6 24)]
def Fui40_35 := fs Fui40_30 [(56, ig 24)]
def Rui40_36 : Rg := ⟨1, 30, 4, Fui40_30, Bui40_29, [pl (ig 24) 0 3 0], []⟩
def Bui40_37 := [bb 25 (d3 0), bb 28 (i6 24), bb 25 [lb false, vs 5, vi 6], bb 28 (i6 24)]
end Go.Proofs.YtkdicconchobfaaGreatDoor
