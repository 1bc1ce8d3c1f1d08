/- EftSums: the walk. -/
import Derived.Test.YtplkmbdoecepeaaAll
import Derived.Test.YtplkmbdoecepeaaLists
import Derived.Test.YtplkmbdoecepeaaExactPlain
namespace Go.Proofs.Ytplkmbdoecepeaa
open Go.RowKit Go.Proofs.YtplkmbdoecepeaaW.PrintWords Limb Ieee EftPure
set_option linter.unusedVariables false
set_option linter.unusedSimpArgs false

theorem sgnI_same (z : Int) : sgnI z = sgnI' z := by unfold sgnI sgnI'; split <;> split <;> omega
theorem isum_lt {l : List Nat} {L : List Int} (h : IsL l L) (hn : l.length ≤ 1048576) : (isum L).natAbs < 2 ^ (TT + 21) := by
  have := isum_take_lt h hn L.length
  rwa [List.take_length] at this

set_option maxRecDepth 100000 in
set_option maxHeartbeats 8000000 in
theorem sums_any (l : List Nat) (A : Option Addr) (c b : Nat) (w : World) (hr : kF.C w A l.length l) (hc : l.length ≤ c) (wl : Wl l) (h64b : b < 18446744073709551616) :
    Calls Try.prog 7 #[.slice A l.length c, .float .f64 b] w fun e w' => e = .returned (.bool true) ∧ Below w.heap.size w w' := by
  have HR := Aside0.mk hr
  have HC := Aside0.mk hc
  have HM := Aside0.mk (show l.length ≤ 9223372036854775807 from hr.2.1)
  clear hr hc
  cases ha : modsB l 32
  · go_enter Try.func7, Try.ntmps7
    go_wp2_with (first | (go_at_call 9; refine (lives_any _).mono ?_; rintro e W1 ⟨rfl, hb⟩; have B0 := Aside0.mk hb; clear hb) | (go_at_call 31; go_must (refine (moderates_any l A c 32 _ (Kd.C_below HR.out B0.out) HC.out HM.out).mono ?_; rintro e W2 ⟨rfl, hq⟩; have hb := quiet_below hq; have B00 := Aside0.mk (below_then B0.out B0.out.size hb); clear hb hq)))
    go_ret
    exact ⟨rfl, B00.out⟩
  cases hb : modB b
  · go_enter Try.func7, Try.ntmps7
    go_wp2_with (first | (go_at_call 9; refine (lives_any _).mono ?_; rintro e W1 ⟨rfl, hb⟩; have B0 := Aside0.mk hb; clear hb) | (go_at_call 31; go_must (refine (moderates_any l A c 32 _ (Kd.C_below HR.out B0.out) HC.out HM.out).mono ?_; rintro e W2 ⟨rfl, hq⟩; have hb := quiet_below hq; have B00 := Aside0.mk (below_then B0.out B0.out.size hb); clear hb hq)) | (go_at_call 10; refine (moderate_any _ _).mono ?_; rintro e W3 ⟨rfl, hq⟩; have hb := quiet_below hq; have B01 := Aside0.mk (below_then B00.out B00.out.size hb); clear hb hq))
    go_ret
    exact ⟨rfl, B01.out⟩
  obtain ⟨L, G, S, C, B, g, s, cl, iL, mL, iB, mB, iG, iS, iC, wg, ws, wc, dG, dS, dC, e1, e2, e3, e4, n0, n1, n2, n3⟩ := sums_mod ha wl hb h64b
  have HL := Aside0.mk (show (2 * l.length + 1) * 8 ≤ 140737488355328 by omega)
  obtain ⟨Z, hZ⟩ : ∃ Z, Z = isum L := ⟨_, rfl⟩
  have bZ := isum_lt iL (by omega)
  have bG := isum_lt iG (by omega)
  have hHI := HI_eq
  have hTT := TT_eq
  have bB : B.natAbs < 2 ^ (HI + 1) := Nat.lt_of_le_of_lt mB.le (Nat.pow_lt_pow_right (by decide) (by omega))
  rw [← hZ] at bZ e1 e2 e3 e4
  rw [e2] at bG
  have bP : (Z * B).natAbs < 2 ^ (TT + 21 + (HI + 1)) := by
    rw [Int.natAbs_mul, Nat.pow_add]
    exact Nat.mul_lt_mul'' bZ bB
  obtain ⟨lZ, xZ⟩ := form_small (e := -1074) (k := 40) bZ (by omega)
  obtain ⟨lG, xG⟩ := form_small (e := -1074) (k := 40) bG (by omega)
  obtain ⟨lB, xB⟩ := form_small (e := -1074) (k := 40) bB (by omega)
  obtain ⟨lP, xP⟩ := form_small (e := -2148) (k := 80) bP (by omega)
  have xZ2 : -8589934592 ≤ cexp Z (-1074) ∧ cexp Z (-1074) ≤ 8589934592 := by omega
  have xG2 : -8589934592 ≤ cexp (Z + B) (-1074) ∧ cexp (Z + B) (-1074) ≤ 8589934592 := by omega
  have xB2 : -8589934592 ≤ cexp B (-1074) ∧ cexp B (-1074) ≤ 8589934592 := by omega
  have xP2 : -8589934592 ≤ cexp (Z * B) (-2148) ∧ cexp (Z * B) (-2148) ≤ 8589934592 := by omega
  have QL := Aside0.mk (fun (m : World) (h : kF.C m A l.length l) => (by have q := all_any l L iL wl (by omega) A c m h HC.out; rw [← hZ] at q; exact q : Calls Try.prog 37 #[.slice A l.length c] m fun e w' => ∃ v, e = .returned v ∧ RDy w' m.heap.size v Z (-1074) ∧ Below m.heap.size m w'))
  have QS1 := Aside0.mk (fun (A' : Option Addr) (c' : Nat) (m : World) (h : kF.C m A' s.length s) (h' : s.length ≤ c') => (by have q := all_any s S iS ws (by omega) A' c' m h h'; rw [e1] at q; exact q : Calls Try.prog 37 #[.slice A' s.length c'] m fun e w' => ∃ v, e = .returned v ∧ RDy w' m.heap.size v Z (-1074) ∧ Below m.heap.size m w'))
  have QG1 := Aside0.mk (fun (A' : Option Addr) (c' : Nat) (m : World) (h : kF.C m A' g.length g) (h' : g.length ≤ c') => (by have q := all_any g G iG wg (by omega) A' c' m h h'; rw [e2] at q; exact q : Calls Try.prog 37 #[.slice A' g.length c'] m fun e w' => ∃ v, e = .returned v ∧ RDy w' m.heap.size v (Z + B) (-1074) ∧ Below m.heap.size m w'))
  have QC1 := Aside0.mk (fun (A' : Option Addr) (c' : Nat) (m : World) (h : kF.C m A' cl.length cl) (h' : cl.length ≤ c') => (by
    have q := all_any cl C iC wc (by omega) A' c' m h h'
    refine q.mono ?_
    rintro en w' ⟨v, rfl, hr, hb⟩
    refine ⟨v, rfl, ?_, hb⟩
    rw [show (-1074 : Int) = -2148 + (DD : Nat) by rw [DD_eq]; rfl] at hr
    have := RDy.scale DD hr
    rw [← e3] at this
    exact this : Calls Try.prog 37 #[.slice A' cl.length c'] m fun e w' => ∃ v, e = .returned v ∧ RDy w' m.heap.size v (Z * B) (-2148) ∧ Below m.heap.size m w'))
  obtain ⟨sg, hsg⟩ : ∃ x, x = sgnI' Z := ⟨_, rfl⟩
  have SG1 := Aside0.mk (fun (A' : Option Addr) (c' : Nat) (m : World) (h : kF.C m A' s.length s) (h' : s.length ≤ c') => (by have q := sign_any s A' c' m h h' (by omega); rw [e4, ← hsg] at q; exact q : Calls Try.prog 30 #[.slice A' s.length c'] m fun e w' => e = .returned (.int .i64 sg) ∧ ∃ n, w' = m.drewN n))
  have SW := Aside0.mk (fun (v : Value) (m : World) (h : CDy m v Z (-1074)) => (by have q := sign_any' v Z (-1074) m h (by omega); rw [sgnI_same, ← hsg] at q; exact q : Calls Try.prog 39 #[v] m fun en w' => en = .returned (.int .i64 sg) ∧ Below m.heap.size m w'))
  have NB := Aside0.mk (fun (m : World) => number_any b B iB h64b m)
  have NL := Aside0.mk (fun (x : Nat) (X : Int) (iX : IsF x X) (wx : x < 18446744073709551616) (m : World) => number_any x X iX wx m)
  have PB := Aside0.mk (fun (u v : Value) (m : World) (h : CDy m u Z (-1074)) (h' : CDy m v B (-1074)) => plus_dy u v Z B (-1074) m h h' (by omega) (by omega) (by omega) (by omega) (by omega) (by omega))
  have TB := Aside0.mk (fun (u v : Value) (m : World) (h : CDy m u Z (-1074)) (h' : CDy m v B (-1074)) => (by have q := times_dy u v Z B (-1074) (-1074) m h h' (by omega) (by omega) (by omega) (by omega) (by omega) (by omega); rw [show (-1074 : Int) + -1074 = -2148 from rfl] at q; exact q : Calls Try.prog 13 #[u, v] m fun en w' => ∃ v', en = .returned v' ∧ RDy w' m.heap.size v' (Z * B) (-2148) ∧ Below m.heap.size m w'))
  have IL := Aside0.mk (And.intro iL (And.intro wl mL))
  have DG := Aside0.mk dG
  have DS := Aside0.mk dS
  have DC := Aside0.mk dC
  have LX := Aside0.mk (fun (X : Int) (h : X.natAbs ≤ 2 ^ HI) => show (∃ h1 : (limbs (cman X)).length ≤ 40, -8589934592 ≤ cexp X (-1074) ∧ cexp X (-1074) ≤ 8589934592) ∧ (∃ h2 : (limbs (cman (X * B))).length ≤ 80, -8589934592 ≤ cexp (X * B) (-2148) ∧ cexp (X * B) (-2148) ≤ 8589934592) from by
    have b1 : X.natAbs < 2 ^ (HI + 1) := Nat.lt_of_le_of_lt h (Nat.pow_lt_pow_right (by decide) (by omega))
    have b2 : (X * B).natAbs < 2 ^ (HI + 1 + (HI + 1)) := by
      rw [Int.natAbs_mul, Nat.pow_add]
      exact Nat.mul_lt_mul'' b1 bB
    obtain ⟨q1, q2⟩ := form_small (e := -1074) (k := 40) b1 (by omega)
    obtain ⟨q3, q4⟩ := form_small (e := -2148) (k := 80) b2 (by omega)
    exact ⟨⟨q1, by omega⟩, ⟨q3, by omega⟩⟩)
  clear iL mL iB mB iG iS iC wg ws wc dG dS dC e1 e2 e3 e4 n1 n2 n3 hZ bZ bG bB bP hHI hTT xZ xG xB xP hsg wl
  go_enter Try.func7, Try.ntmps7
  go_upto_region 9 with (first | (go_at_call 9; refine (lives_any _).mono ?_; rintro e W1 ⟨rfl, hb⟩; have B0 := Aside0.mk hb; clear hb) | (go_at_call 31; go_must (refine (moderates_any l A c 32 _ (Kd.C_below HR.out B0.out) HC.out HM.out).mono ?_; rintro e W2 ⟨rfl, hq⟩; have hb := quiet_below hq; have B00 := Aside0.mk (below_then B0.out B0.out.size hb); clear hb hq)) | (go_at_call 10; refine (moderate_any _ _).mono ?_; rintro e W3 ⟨rfl, hq⟩; have hb := quiet_below hq; have B01 := Aside0.mk (below_then B00.out B00.out.size hb); clear hb hq) | (go_at_call 28; go_must (refine (sum_any l A c _ (Kd.C_below HR.out B01.out) HC.out ?hl).mono ?_; (case hl => have := HL.out; omega); rintro e w_1 ⟨v_1, o_1, rfl, hg, _, ho, hb⟩; have qq := (DS.out _ hg).symm; subst qq; obtain ⟨A_1, c_1, rfl, hc1, hC1⟩ := Kd.R_reads ho; have HC1 := Aside0.mk hc1; have HR1 := Aside0.mk hC1; have B1 := Aside0.mk (below_then B01.out (B01.out).size hb); clear hg ho hb hc1 hC1)) | (go_at_call 29; go_must (refine (scale_any l A c b _ (Kd.C_below HR.out B1.out) HC.out ?hl).mono ?_; (case hl => have := HL.out; omega); rintro e w_2 ⟨v_2, o_2, rfl, hg, ho, hb⟩; have qq := (DC.out _ hg).symm; subst qq; replace HR1 := Aside0.mk (Kd.C_below HR1.out hb); obtain ⟨A_2, c_2, rfl, hc1, hC1⟩ := Kd.R_reads ho; have HC2 := Aside0.mk hc1; have HR2 := Aside0.mk hC1; have B2 := Aside0.mk (below_then B1.out (B1.out).size hb); clear hg ho hb hc1 hC1)) | (go_at_call 27; go_must (refine (grow_any l A c b _ (Kd.C_below HR.out B2.out) HC.out ?hl).mono ?_; (case hl => have := HL.out; omega); rintro e w_3 ⟨v_3, o_3, rfl, hg, ho, hb⟩; have qq := (DG.out _ hg).symm; subst qq; replace HR1 := Aside0.mk (Kd.C_below HR1.out hb); replace HR2 := Aside0.mk (Kd.C_below HR2.out hb); obtain ⟨A_3, c_3, rfl, hc1, hC1⟩ := Kd.R_reads ho; have HC3 := Aside0.mk hc1; have HR3 := Aside0.mk hC1; have B3 := Aside0.mk (below_then B2.out (B2.out).size hb); clear hg ho hb hc1 hC1)) | (go_at_call 37; go_must (refine (QL.out _ (Kd.C_below HR.out B3.out)).mono ?_; rintro e w4 ⟨vs, rfl, ⟨As, ns, cs, rfl, hrs⟩, hb⟩; replace HR1 := Aside0.mk (Kd.C_below HR1.out hb); replace HR2 := Aside0.mk (Kd.C_below HR2.out hb); replace HR3 := Aside0.mk (Kd.C_below HR3.out hb); have RS := Aside0.mk hrs; have B4 := Aside0.mk (below_then B3.out B3.out.size hb); clear hrs hb)))
  obtain ⟨W9, hW9⟩ : ∃ W9, W9 = w4.alloc (.cells #[.bool (cneg Z), .slice As ns cs, .int .i64 (cexp Z (-1074))] 30) := ⟨_, rfl⟩
  rw [← hW9]
  have B9 := Aside0.mk (show Below w4.heap.size w4 W9 by rw [hW9]; exact below_alloc (Below.refl _ _) _)
  have H9 := Aside0.mk (show W9.heap[w4.heap.size]? = some (.cells #[.bool (cneg Z), .slice As ns cs, .int .i64 (cexp Z (-1074))] 30 (0, 0)) by rw [hW9]; exact blk_new _ _)
  clear hW9
  have CS := Aside0.mk (fun (m : World) (hm : Below W9.heap.size W9 m) => show CDy m (.agg #[.bool (cneg Z), .slice As ns cs, .int .i64 (cexp Z (-1074))]) Z (-1074) from ((RDy.c ⟨As, ns, cs, rfl, RS.out⟩).below B9.out).below hm)
  have QS := Aside0.mk (fun (m : World) (hm : Below W9.heap.size W9 m) => QS1.out A_1 c_1 m (Kd.C_below (Kd.C_below HR1.out B9.out) hm) HC1.out)
  have SG := Aside0.mk (fun (m : World) (hm : Below W9.heap.size W9 m) => SG1.out A_1 c_1 m (Kd.C_below (Kd.C_below HR1.out B9.out) hm) HC1.out)
  have QG := Aside0.mk (fun (m : World) (hm : Below W9.heap.size W9 m) => QG1.out A_3 c_3 m (Kd.C_below (Kd.C_below HR3.out B9.out) hm) HC3.out)
  have QC := Aside0.mk (fun (m : World) (hm : Below W9.heap.size W9 m) => QC1.out A_2 c_2 m (Kd.C_below (Kd.C_below HR2.out B9.out) hm) HC2.out)
  have BW := Aside0.mk (below_then B4.out B4.out.size B9.out)
  refine wp_region_slots [32, 33, 34, 35, 36, 37, 38, 39, 40, 41, 42, 43, 44, 45, 46, 47, 48, 49, 50, 51, 52, 53] (by kernel_rfl) (by kernel_rfl)
    (F := fun j q W => match j with | 0 => q = .slice A_1 s.length c_1 | 1 => RDy W W9.heap.size q (Z) (-1074) | 2 => q = .agg #[.bool (cneg Z), .slice As ns cs, .int .i64 (cexp Z (-1074))] | 3 => q = .bool true | 4 => q = .bool false | 5 => q = .bool false | 6 => q = .slice A_3 g.length c_3 | 7 => RDy W W9.heap.size q (Z + B) (-1074) | 8 => q = .agg #[.bool (cneg Z), .slice As ns cs, .int .i64 (cexp Z (-1074))] | 9 => q = .float .f64 b | 10 => RDy W W9.heap.size q (B) (-1074) | 11 => RDy W W9.heap.size q (Z + B) (-1074) | 12 => q = .bool true | 13 => q = .bool false | 14 => q = .bool false | 15 => q = .bool false | 16 => q = .slice A_1 s.length c_1 | 17 => q = .int .i64 sg | 18 => q = .agg #[.bool (cneg Z), .slice As ns cs, .int .i64 (cexp Z (-1074))] | 19 => q = .int .i64 sg | 20 => q = .bool false | 21 => q = .bool false | _ => True)
    (J := fun W => Below W9.heap.size W9 W)
    (below_drew (Below.refl _ _)) ?hstep ?hend
  case hstep =>
    intro k o ho v W L hJW hF hnk haft K hK
    rcases k with _ | _ | _ | _ | _ | _ | _ | _ | _ | _ | _ | _ | _ | _ | _ | _ | _ | _ | _ | _ | _ | _ | k
    all_goals first
      | (cases ho; done)
      | (obtain rfl := (Option.some.inj ho).symm
         clear ho
         simp only [setAll, List.setIfInBounds_toArray, List.set_cons_zero, List.set_cons_succ, List.getElem_toArray, List.getElem_cons_zero, List.getElem_cons_succ, Nat.reduceAdd] at haft hF hK ⊢)
    case zero =>
      rw [if_pos (by rfl)]
      have key := hK.out (.slice A_1 s.length c_1) W hJW (fun _ _ h => h) rfl
      go_simp
      simpa [upd] using key
    case succ.zero =>
      rw [if_pos (by rfl)]
      have f0 : v 0 = .slice A_1 s.length c_1 := hF 0 (haft { on := 0, ground := .data } (by simp) rfl)
      go_simp
      go_at_call 37
      refine (QS.out W hJW).mono ?_
      rintro en w4 ⟨v1, rfl, hr, hb⟩
      have key := hK.out (v1) w4 (below_then hJW hJW.size hb) ?mono32_1 (hr.lower hJW.size)
      · simpa [upd, f0] using key
      intro j hj hf
      rcases j with _ | _ | _ | _ | _ | _ | _ | _ | _ | _ | _ | _ | _ | _ | _ | _ | _ | _ | _ | _ | _ | _ | j <;> first | exact hf | exact RDy.below hf hb | exact fun hz_ => RDy.below (hf hz_) hb
    case succ.succ.zero =>
      rw [if_pos (by rfl)]
      have cc0 := (box_cell (v := .bool (cneg Z)) (blk_below H9.out hJW) 0 rfl).1
      have cc1 := (box_cell (v := .slice As ns cs) (blk_below H9.out hJW) 1 rfl).1
      have cc2 := (box_cell (v := .int .i64 (cexp Z (-1074))) (blk_below H9.out hJW) 2 rfl).1
      have key := hK.out (.agg #[.bool (cneg Z), .slice As ns cs, .int .i64 (cexp Z (-1074))]) W hJW (fun _ _ h => h) rfl
      go_simp
      simpa [upd] using key
    case succ.succ.succ.zero =>
      rw [if_pos (by rfl)]
      have f1 : RDy W W9.heap.size (v 1) (Z) (-1074) := hF 1 (haft { on := 1, ground := .data } (by simp) rfl)
      have f2 : v 2 = .agg #[.bool (cneg Z), .slice As ns cs, .int .i64 (cexp Z (-1074))] := hF 2 (haft { on := 2, ground := .data } (by simp) rfl)
      go_simp
      go_at_call 24
      refine (same_self (v 1) (.agg #[.bool (cneg Z), .slice As ns cs, .int .i64 (cexp Z (-1074))]) Z (-1074) W f1.c (CS.out W hJW) (by omega) (by omega) (by omega)).mono ?_
      rintro en w4 ⟨rfl, hb⟩
      have key := hK.out (.bool true) w4 (below_then hJW hJW.size hb) ?mono32_3 (rfl)
      · simpa [upd, f2] using key
      intro j hj hf
      rcases j with _ | _ | _ | _ | _ | _ | _ | _ | _ | _ | _ | _ | _ | _ | _ | _ | _ | _ | _ | _ | _ | _ | j <;> first | exact hf | exact RDy.below hf hb | exact fun hz_ => RDy.below (hf hz_) hb
    case succ.succ.succ.succ.zero =>
      rw [if_pos (by rfl)]
      have f3 : v 3 = .bool true := hF 3 (haft { on := 3, ground := .data } (by simp) rfl)
      have key := hK.out (.bool false) W hJW (fun _ _ h => h) rfl
      go_simp
      simpa [upd, f3] using key
    case succ.succ.succ.succ.succ.zero =>
      rw [if_pos (by rfl)]
      have f4 : v 4 = .bool false := hF 4 (haft { on := 4, ground := .data } (by simp) rfl)
      have key := hK.out (.bool false) W hJW (fun _ _ h => h) rfl
      go_simp
      simpa [upd, f4] using key
    case succ.succ.succ.succ.succ.succ.zero =>
      have fg : v 5 = .bool false := hF 5 (haft { on := 5, ground := .guard } (by simp) rfl)
      rw [if_pos (by simp [Region.wanted, yielded, fg])]
      have key := hK.out (.slice A_3 g.length c_3) W hJW (fun _ _ h => h) rfl
      go_simp
      simpa [upd, fg] using key
    case succ.succ.succ.succ.succ.succ.succ.zero =>
      have fg : v 5 = .bool false := hF 5 (haft { on := 5, ground := .guard } (by simp) rfl)
      rw [if_pos (by simp [Region.wanted, yielded, fg])]
      have f6 : v 6 = .slice A_3 g.length c_3 := hF 6 (haft { on := 6, ground := .data } (by simp) rfl)
      go_simp
      go_at_call 37
      refine (QG.out W hJW).mono ?_
      rintro en w4 ⟨v1, rfl, hr, hb⟩
      have key := hK.out (v1) w4 (below_then hJW hJW.size hb) ?mono32_7 (hr.lower hJW.size)
      · simpa [upd, f6, fg] using key
      intro j hj hf
      rcases j with _ | _ | _ | _ | _ | _ | _ | _ | _ | _ | _ | _ | _ | _ | _ | _ | _ | _ | _ | _ | _ | _ | j <;> first | exact hf | exact RDy.below hf hb | exact fun hz_ => RDy.below (hf hz_) hb
    case succ.succ.succ.succ.succ.succ.succ.succ.zero =>
      have fg : v 5 = .bool false := hF 5 (haft { on := 5, ground := .guard } (by simp) rfl)
      rw [if_pos (by simp [Region.wanted, yielded, fg])]
      have cc0 := (box_cell (v := .bool (cneg Z)) (blk_below H9.out hJW) 0 rfl).1
      have cc1 := (box_cell (v := .slice As ns cs) (blk_below H9.out hJW) 1 rfl).1
      have cc2 := (box_cell (v := .int .i64 (cexp Z (-1074))) (blk_below H9.out hJW) 2 rfl).1
      have key := hK.out (.agg #[.bool (cneg Z), .slice As ns cs, .int .i64 (cexp Z (-1074))]) W hJW (fun _ _ h => h) rfl
      go_simp
      simpa [upd, fg] using key
    case succ.succ.succ.succ.succ.succ.succ.succ.succ.zero =>
      have fg : v 5 = .bool false := hF 5 (haft { on := 5, ground := .guard } (by simp) rfl)
      rw [if_pos (by simp [Region.wanted, yielded, fg])]
      have key := hK.out (.float .f64 b) W hJW (fun _ _ h => h) rfl
      go_simp
      simpa [upd, fg] using key
    case succ.succ.succ.succ.succ.succ.succ.succ.succ.succ.zero =>
      have fg : v 5 = .bool false := hF 5 (haft { on := 5, ground := .guard } (by simp) rfl)
      rw [if_pos (by simp [Region.wanted, yielded, fg])]
      have f9 : v 9 = .float .f64 b := hF 9 (haft { on := 9, ground := .data } (by simp) rfl)
      go_simp
      go_at_call 14
      refine (NB.out _).mono ?_
      rintro en w4 ⟨v1, rfl, hr, hb⟩
      have key := hK.out (v1) w4 (below_then hJW hJW.size hb) ?mono32_10 (hr.lower hJW.size)
      · simpa [upd, f9, fg] using key
      intro j hj hf
      rcases j with _ | _ | _ | _ | _ | _ | _ | _ | _ | _ | _ | _ | _ | _ | _ | _ | _ | _ | _ | _ | _ | _ | j <;> first | exact hf | exact RDy.below hf hb | exact fun hz_ => RDy.below (hf hz_) hb
    case succ.succ.succ.succ.succ.succ.succ.succ.succ.succ.succ.zero =>
      have fg : v 5 = .bool false := hF 5 (haft { on := 5, ground := .guard } (by simp) rfl)
      rw [if_pos (by simp [Region.wanted, yielded, fg])]
      have f8 : v 8 = .agg #[.bool (cneg Z), .slice As ns cs, .int .i64 (cexp Z (-1074))] := hF 8 (haft { on := 8, ground := .data } (by simp) rfl)
      have f10 : RDy W W9.heap.size (v 10) (B) (-1074) := hF 10 (haft { on := 10, ground := .data } (by simp) rfl)
      go_simp
      go_at_call 38
      refine (PB.out (.agg #[.bool (cneg Z), .slice As ns cs, .int .i64 (cexp Z (-1074))]) (v 10) W (CS.out W hJW) f10.c).mono ?_
      rintro en w4 ⟨v1, rfl, hr, hb⟩
      have key := hK.out (v1) w4 (below_then hJW hJW.size hb) ?mono32_11 (hr.lower hJW.size)
      · simpa [upd, f8, fg] using key
      intro j hj hf
      rcases j with _ | _ | _ | _ | _ | _ | _ | _ | _ | _ | _ | _ | _ | _ | _ | _ | _ | _ | _ | _ | _ | _ | j <;> first | exact hf | exact RDy.below hf hb | exact fun hz_ => RDy.below (hf hz_) hb
    case succ.succ.succ.succ.succ.succ.succ.succ.succ.succ.succ.succ.zero =>
      have fg : v 5 = .bool false := hF 5 (haft { on := 5, ground := .guard } (by simp) rfl)
      rw [if_pos (by simp [Region.wanted, yielded, fg])]
      have f7 : RDy W W9.heap.size (v 7) (Z + B) (-1074) := hF 7 (haft { on := 7, ground := .data } (by simp) rfl)
      have f11 : RDy W W9.heap.size (v 11) (Z + B) (-1074) := hF 11 (haft { on := 11, ground := .data } (by simp) rfl)
      go_simp
      go_at_call 24
      refine (same_self (v 7) (v 11) (Z + B) (-1074) W f7.c f11.c (by omega) (by omega) (by omega)).mono ?_
      rintro en w4 ⟨rfl, hb⟩
      have key := hK.out (.bool true) w4 (below_then hJW hJW.size hb) ?mono32_12 (rfl)
      · simpa [upd, fg] using key
      intro j hj hf
      rcases j with _ | _ | _ | _ | _ | _ | _ | _ | _ | _ | _ | _ | _ | _ | _ | _ | _ | _ | _ | _ | _ | _ | j <;> first | exact hf | exact RDy.below hf hb | exact fun hz_ => RDy.below (hf hz_) hb
    case succ.succ.succ.succ.succ.succ.succ.succ.succ.succ.succ.succ.succ.zero =>
      have fg : v 5 = .bool false := hF 5 (haft { on := 5, ground := .guard } (by simp) rfl)
      rw [if_pos (by simp [Region.wanted, yielded, fg])]
      have f12 : v 12 = .bool true := hF 12 (haft { on := 12, ground := .data } (by simp) rfl)
      have key := hK.out (.bool false) W hJW (fun _ _ h => h) rfl
      go_simp
      simpa [upd, f12, fg] using key
    case succ.succ.succ.succ.succ.succ.succ.succ.succ.succ.succ.succ.succ.succ.zero =>
      rw [if_pos (by rfl)]
      have f5 : v 5 = .bool false := hF 5 (haft { on := 5, ground := .data } (by simp) rfl)
      have f13 : v 13 = .bool false := hF 13 (haft { on := 13, ground := .data } (by simp) rfl)
      have key := hK.out (.bool false) W hJW (fun _ _ h => h) rfl
      go_simp
      simpa [upd, f5, f13] using key
    case succ.succ.succ.succ.succ.succ.succ.succ.succ.succ.succ.succ.succ.succ.succ.zero =>
      rw [if_pos (by rfl)]
      have f14 : v 14 = .bool false := hF 14 (haft { on := 14, ground := .data } (by simp) rfl)
      have key := hK.out (.bool false) W hJW (fun _ _ h => h) rfl
      go_simp
      simpa [upd, f14] using key
    case succ.succ.succ.succ.succ.succ.succ.succ.succ.succ.succ.succ.succ.succ.succ.succ.zero =>
      have fg : v 15 = .bool false := hF 15 (haft { on := 15, ground := .guard } (by simp) rfl)
      rw [if_pos (by simp [Region.wanted, yielded, fg])]
      have key := hK.out (.slice A_1 s.length c_1) W hJW (fun _ _ h => h) rfl
      go_simp
      simpa [upd, fg] using key
    case succ.succ.succ.succ.succ.succ.succ.succ.succ.succ.succ.succ.succ.succ.succ.succ.succ.zero =>
      have fg : v 15 = .bool false := hF 15 (haft { on := 15, ground := .guard } (by simp) rfl)
      rw [if_pos (by simp [Region.wanted, yielded, fg])]
      have f16 : v 16 = .slice A_1 s.length c_1 := hF 16 (haft { on := 16, ground := .data } (by simp) rfl)
      go_simp
      go_at_call 30
      refine (SG.out W hJW).mono ?_
      rintro en w4 ⟨rfl, hq⟩
      have hb := quiet_below hq
      have key := hK.out (.int .i64 sg) w4 (below_then hJW hJW.size hb) ?mono32_17 (rfl)
      · simpa [upd, f16, fg] using key
      intro j hj hf
      rcases j with _ | _ | _ | _ | _ | _ | _ | _ | _ | _ | _ | _ | _ | _ | _ | _ | _ | _ | _ | _ | _ | _ | j <;> first | exact hf | exact RDy.below hf hb | exact fun hz_ => RDy.below (hf hz_) hb
    case succ.succ.succ.succ.succ.succ.succ.succ.succ.succ.succ.succ.succ.succ.succ.succ.succ.succ.zero =>
      have fg : v 15 = .bool false := hF 15 (haft { on := 15, ground := .guard } (by simp) rfl)
      rw [if_pos (by simp [Region.wanted, yielded, fg])]
      have cc0 := (box_cell (v := .bool (cneg Z)) (blk_below H9.out hJW) 0 rfl).1
      have cc1 := (box_cell (v := .slice As ns cs) (blk_below H9.out hJW) 1 rfl).1
      have cc2 := (box_cell (v := .int .i64 (cexp Z (-1074))) (blk_below H9.out hJW) 2 rfl).1
      have key := hK.out (.agg #[.bool (cneg Z), .slice As ns cs, .int .i64 (cexp Z (-1074))]) W hJW (fun _ _ h => h) rfl
      go_simp
      simpa [upd, fg] using key
    case succ.succ.succ.succ.succ.succ.succ.succ.succ.succ.succ.succ.succ.succ.succ.succ.succ.succ.succ.zero =>
      have fg : v 15 = .bool false := hF 15 (haft { on := 15, ground := .guard } (by simp) rfl)
      rw [if_pos (by simp [Region.wanted, yielded, fg])]
      have f18 : v 18 = .agg #[.bool (cneg Z), .slice As ns cs, .int .i64 (cexp Z (-1074))] := hF 18 (haft { on := 18, ground := .data } (by simp) rfl)
      go_simp
      go_at_call 39
      refine (SW.out (.agg #[.bool (cneg Z), .slice As ns cs, .int .i64 (cexp Z (-1074))]) W (CS.out W hJW)).mono ?_
      rintro en w4 ⟨rfl, hb⟩
      have key := hK.out (.int .i64 sg) w4 (below_then hJW hJW.size hb) ?mono32_19 (rfl)
      · simpa [upd, f18, fg] using key
      intro j hj hf
      rcases j with _ | _ | _ | _ | _ | _ | _ | _ | _ | _ | _ | _ | _ | _ | _ | _ | _ | _ | _ | _ | _ | _ | j <;> first | exact hf | exact RDy.below hf hb | exact fun hz_ => RDy.below (hf hz_) hb
    case succ.succ.succ.succ.succ.succ.succ.succ.succ.succ.succ.succ.succ.succ.succ.succ.succ.succ.succ.succ.zero =>
      have fg : v 15 = .bool false := hF 15 (haft { on := 15, ground := .guard } (by simp) rfl)
      rw [if_pos (by simp [Region.wanted, yielded, fg])]
      have f17 : v 17 = .int .i64 sg := hF 17 (haft { on := 17, ground := .data } (by simp) rfl)
      have f19 : v 19 = .int .i64 sg := hF 19 (haft { on := 19, ground := .data } (by simp) rfl)
      have key := hK.out (.bool false) W hJW (fun _ _ h => h) rfl
      go_simp
      simpa [upd, f17, f19, fg] using key
    case succ.succ.succ.succ.succ.succ.succ.succ.succ.succ.succ.succ.succ.succ.succ.succ.succ.succ.succ.succ.succ.zero =>
      rw [if_pos (by rfl)]
      have f15 : v 15 = .bool false := hF 15 (haft { on := 15, ground := .data } (by simp) rfl)
      have f20 : v 20 = .bool false := hF 20 (haft { on := 20, ground := .data } (by simp) rfl)
      have key := hK.out (.bool false) W hJW (fun _ _ h => h) rfl
      go_simp
      simpa [upd, f15, f20] using key
  case hend =>
    intro v W hJW hF
    have f21 : v 21 = .bool false := hF 21 (by decide)
    clear hF
    have BJ := Aside0.mk hJW
    clear hJW
    simp only [setAll, List.setIfInBounds_toArray, List.set_cons_zero, List.set_cons_succ, Nat.reduceAdd, f21]
    go_wp2
    go_loopw [56] (fun i wr => ∃ (k : Nat), i = .int .i64 k ∧ k ≤ l.length ∧ Aside0 (Below W9.heap.size W9 wr)) (fun i _ => l.length - (intOf i).toNat)
    case atStart => exact ⟨0, rfl, Nat.zero_le _, BJ⟩
    case round =>
      obtain ⟨k, rfl, hk, HB⟩ := hrel
      by_cases hlt : k < l.length
      · obtain ⟨ad, x, rfl, hx0, hcell0⟩ := at_float HR.out rfl k hlt
        obtain ⟨X, iX, hX⟩ := IsL.at IL.out.1 hx0
        have hcell := pw_cell_below (below_then BW.out BW.out.size HB.out) hcell0
        have wx := IL.out.2.1 x (List.mem_of_getElem? hx0)
        obtain ⟨⟨lX, xX⟩, ⟨lQ, xQ⟩⟩ := LX.out X (IL.out.2.2 X (List.mem_of_getElem? hX)).le
        have NX := Aside0.mk (fun (m : World) => NL.out x X iX wx m)
        have TX := Aside0.mk (fun (u v : Value) (m : World) (h : CDy m u X (-1074)) (h' : CDy m v B (-1074)) => (by have q := times_dy u v X B (-1074) (-1074) m h h' (by omega) (by omega) (by omega) (by omega) (by omega) (by omega); rw [show (-1074 : Int) + -1074 = -2148 from rfl] at q; exact q : Calls Try.prog 13 #[u, v] m fun en w' => ∃ v', en = .returned v' ∧ RDy w' m.heap.size v' (X * B) (-2148) ∧ Below m.heap.size m w'))
        have QP := Aside0.mk (fun (v : Value) (m : World) (h : CDy m v (X * B) (-2148)) => top_any v (X * B) (-2148) m h (by omega) (by omega) (by omega))
        have LQ := Aside0.mk lQ
        clear hcell0 iX hX wx lX xX lQ xQ hx0
        go_upto_region 15 with (first
          | (go_at_call 14; first
             | (with_reducible refine (NX.out _).mono ?_; rintro e w5 ⟨va, rfl, hra, hb⟩; have RA := Aside0.mk hra; have B5 := Aside0.mk (below_then HB.out HB.out.size hb); clear hra hb)
             | (with_reducible refine (NB.out _).mono ?_; rintro e w6 ⟨vb, rfl, hrb, hb⟩; have RB := Aside0.mk hrb; have RA3 := Aside0.mk (RA.out.below hb); have B6 := Aside0.mk (below_then B5.out B5.out.size hb); clear hrb hb))
          | (go_at_call 13; go_must (refine (TX.out va vb _ RA3.out.c RB.out.c).mono ?_; rintro e w7 ⟨vp, rfl, ⟨Ap, np, cp, rfl, hrp⟩, hb⟩; have RP := Aside0.mk hrp; have B7 := Aside0.mk (below_then B6.out B6.out.size hb); clear hrp hb)))
        obtain ⟨W15, hW15⟩ : ∃ W15, W15 = w7.alloc (.cells #[.bool (cneg (X * B)), .slice Ap np cp, .int .i64 (cexp (X * B) (-2148))] 30) := ⟨_, rfl⟩
        rw [← hW15]
        have B15 := Aside0.mk (show Below w7.heap.size w7 W15 by rw [hW15]; exact below_alloc (Below.refl _ _) _)
        have H15 := Aside0.mk (show W15.heap[w7.heap.size]? = some (.cells #[.bool (cneg (X * B)), .slice Ap np cp, .int .i64 (cexp (X * B) (-2148))] 30 (0, 0)) by rw [hW15]; exact blk_new _ _)
        have BB := Aside0.mk (below_then B7.out B7.out.size B15.out)
        clear hW15
        have rp := Kd.R_reads' RP.out
        have QTop := Aside0.mk (fun (m : World) (hm : Below W15.heap.size W15 m) => QP.out (.agg #[.bool (cneg (X * B)), .slice Ap np cp, .int .i64 (cexp (X * B) (-2148))]) m (((RDy.c ⟨Ap, np, cp, rfl, RP.out⟩).below B15.out).below hm))
        have QLen := Aside0.mk (fun (m : World) (hm : Below W15.heap.size W15 m) => len_any (limbs (cman (X * B))) Ap cp m (by have := Kd.C_below (d := kU) (Kd.C_below (d := kU) rp.2.2 B15.out) hm; exact this) (by rw [← rp.1]; exact rp.2.1) (wf_limbs _) (by have := LQ.out; omega))
        rw [← rp.1, nv_limbs] at QLen
        obtain ⟨T, hT⟩ : ∃ T, T = cexp (X * B) (-2148) + bl (cman (X * B)) - 1 := ⟨_, rfl⟩
        rw [← hT] at QTop
        clear hT rp QP
        obtain ⟨bb, hbb⟩ : ∃ x, x = bl (cman (X * B)) := ⟨_, rfl⟩
        rw [← hbb] at QLen
        clear hbb
        have q0 := (box_cell (v := .bool (cneg (X * B))) H15.out 0 rfl).1
        have q1 := (box_cell (v := .slice Ap np cp) H15.out 1 rfl).1
        have q2 := (box_cell (v := .int .i64 (cexp (X * B) (-2148))) H15.out 2 rfl).1
        obtain ⟨tl, htl⟩ : ∃ b, b = decide (T < -900) := ⟨_, rfl⟩
        have htl' := htl.symm
        clear htl
        obtain ⟨ll, hll⟩ : ∃ b, b = decide (0 < bb) := ⟨_, rfl⟩
        have hll' := hll.symm
        have hll2 : decide ((0 : Int) < (bb : Int)) = ll := by rw [hll]; simp
        clear hll
        cases tl
        · go_wp2_with (first
            | (go_at_call 15; refine (QTop.out _ (Below.refl _ _)).mono ?_; rintro e w8 ⟨rfl, hb⟩; have B8 := Aside0.mk (below_then BB.out BB.out.size hb); clear hb))
          go_roundw
          case rel => exact ⟨k + 1, by go_num, by omega, ⟨by first | exact B8.out | exact pw_below_drewN B8.out _⟩⟩
          case measure => simp [intOf]; omega
        · cases ll
          all_goals
            go_wp2_with (first
              | (go_at_call 15; refine (QTop.out _ (Below.refl _ _)).mono ?_; rintro e w8 ⟨rfl, hb⟩; have B8 := Aside0.mk (below_then BB.out BB.out.size hb); have E8 := Aside0.mk hb; have d1 := (box_cell (v := .slice Ap np cp) (blk_below H15.out hb) 1 rfl).1; clear hb)
              | (go_at_call 16; refine (QLen.out _ E8.out).mono ?_; rintro e w10 ⟨rfl, hb⟩; have B10 := Aside0.mk (below_then B8.out B8.out.size hb); clear hb))
          · go_roundw
            case rel => exact ⟨k + 1, by go_num, by omega, ⟨by first | exact B10.out | exact pw_below_drewN B10.out _⟩⟩
            case measure => simp [intOf]; omega
          · go_ret
            exact ⟨rfl, below_then BW.out BW.out.size (by first | exact B10.out | exact pw_below_drewN B10.out _)⟩
      · obtain rfl : k = l.length := by omega
        go_upto_region 18 with fail
        refine wp_region_slots [75, 76, 77, 78, 79, 80, 81, 4] (by kernel_rfl) (by kernel_rfl)
          (F := fun j q W => match j with | 0 => q = .slice A_2 cl.length c_2 | 1 => RDy W W9.heap.size q (Z * B) (-2148) | 2 => q = .agg #[.bool (cneg Z), .slice As ns cs, .int .i64 (cexp Z (-1074))] | 3 => q = .float .f64 b | 4 => RDy W W9.heap.size q (B) (-1074) | 5 => RDy W W9.heap.size q (Z * B) (-2148) | 6 => q = .bool true | 7 => q = .bool true | _ => True)
          (J := fun W => Below W9.heap.size W9 W)
          (below_drew HB.out) ?hstep ?hend
        case hstep =>
          intro k o ho v W L hJW hF hnk haft K hK
          rcases k with _ | _ | _ | _ | _ | _ | _ | _ | k
          all_goals first
            | (cases ho; done)
            | (obtain rfl := (Option.some.inj ho).symm
               clear ho
               simp only [setAll, List.setIfInBounds_toArray, List.set_cons_zero, List.set_cons_succ, List.getElem_toArray, List.getElem_cons_zero, List.getElem_cons_succ, Nat.reduceAdd] at haft hF hK ⊢)
          case zero =>
            rw [if_pos (by rfl)]
            have key := hK.out (.slice A_2 cl.length c_2) W hJW (fun _ _ h => h) rfl
            go_simp
            simpa [upd] using key
          case succ.zero =>
            rw [if_pos (by rfl)]
            have f0 : v 0 = .slice A_2 cl.length c_2 := hF 0 (haft { on := 0, ground := .data } (by simp) rfl)
            go_simp
            go_at_call 37
            refine (QC.out W hJW).mono ?_
            rintro en w4 ⟨v1, rfl, hr, hb⟩
            have key := hK.out (v1) w4 (below_then hJW hJW.size hb) ?mono75_1 (hr.lower hJW.size)
            · simpa [upd, f0] using key
            intro j hj hf
            rcases j with _ | _ | _ | _ | _ | _ | _ | _ | j <;> first | exact hf | exact RDy.below hf hb | exact fun hz_ => RDy.below (hf hz_) hb
          case succ.succ.zero =>
            rw [if_pos (by rfl)]
            have cc0 := (box_cell (v := .bool (cneg Z)) (blk_below H9.out hJW) 0 rfl).1
            have cc1 := (box_cell (v := .slice As ns cs) (blk_below H9.out hJW) 1 rfl).1
            have cc2 := (box_cell (v := .int .i64 (cexp Z (-1074))) (blk_below H9.out hJW) 2 rfl).1
            have key := hK.out (.agg #[.bool (cneg Z), .slice As ns cs, .int .i64 (cexp Z (-1074))]) W hJW (fun _ _ h => h) rfl
            go_simp
            simpa [upd] using key
          case succ.succ.succ.zero =>
            rw [if_pos (by rfl)]
            have key := hK.out (.float .f64 b) W hJW (fun _ _ h => h) rfl
            go_simp
            simpa [upd] using key
          case succ.succ.succ.succ.zero =>
            rw [if_pos (by rfl)]
            have f3 : v 3 = .float .f64 b := hF 3 (haft { on := 3, ground := .data } (by simp) rfl)
            go_simp
            go_at_call 14
            refine (NB.out _).mono ?_
            rintro en w4 ⟨v1, rfl, hr, hb⟩
            have key := hK.out (v1) w4 (below_then hJW hJW.size hb) ?mono75_4 (hr.lower hJW.size)
            · simpa [upd, f3] using key
            intro j hj hf
            rcases j with _ | _ | _ | _ | _ | _ | _ | _ | j <;> first | exact hf | exact RDy.below hf hb | exact fun hz_ => RDy.below (hf hz_) hb
          case succ.succ.succ.succ.succ.zero =>
            rw [if_pos (by rfl)]
            have f2 : v 2 = .agg #[.bool (cneg Z), .slice As ns cs, .int .i64 (cexp Z (-1074))] := hF 2 (haft { on := 2, ground := .data } (by simp) rfl)
            have f4 : RDy W W9.heap.size (v 4) (B) (-1074) := hF 4 (haft { on := 4, ground := .data } (by simp) rfl)
            go_simp
            go_at_call 13
            refine (TB.out (.agg #[.bool (cneg Z), .slice As ns cs, .int .i64 (cexp Z (-1074))]) (v 4) W (CS.out W hJW) f4.c).mono ?_
            rintro en w4 ⟨v1, rfl, hr, hb⟩
            have key := hK.out (v1) w4 (below_then hJW hJW.size hb) ?mono75_5 (hr.lower hJW.size)
            · simpa [upd, f2] using key
            intro j hj hf
            rcases j with _ | _ | _ | _ | _ | _ | _ | _ | j <;> first | exact hf | exact RDy.below hf hb | exact fun hz_ => RDy.below (hf hz_) hb
          case succ.succ.succ.succ.succ.succ.zero =>
            rw [if_pos (by rfl)]
            have f1 : RDy W W9.heap.size (v 1) (Z * B) (-2148) := hF 1 (haft { on := 1, ground := .data } (by simp) rfl)
            have f5 : RDy W W9.heap.size (v 5) (Z * B) (-2148) := hF 5 (haft { on := 5, ground := .data } (by simp) rfl)
            go_simp
            go_at_call 24
            refine (same_self (v 1) (v 5) (Z * B) (-2148) W f1.c f5.c (by omega) (by omega) (by omega)).mono ?_
            rintro en w4 ⟨rfl, hb⟩
            have key := hK.out (.bool true) w4 (below_then hJW hJW.size hb) ?mono75_6 (rfl)
            · simpa [upd] using key
            intro j hj hf
            rcases j with _ | _ | _ | _ | _ | _ | _ | _ | j <;> first | exact hf | exact RDy.below hf hb | exact fun hz_ => RDy.below (hf hz_) hb
          case succ.succ.succ.succ.succ.succ.succ.zero =>
            rw [if_pos (by rfl)]
            have f6 : v 6 = .bool true := hF 6 (haft { on := 6, ground := .data } (by simp) rfl)
            have key := hK.out (.bool true) W hJW (fun _ _ h => h) rfl
            go_simp
            simpa [upd, f6] using key
        case hend =>
          intro v2 W2 hJW2 hF2
          have f7 : v2 7 = .bool true := hF2 7 (by decide)
          clear hF2
          have BF := below_then BW.out BW.out.size hJW2
          simp only [setAll, List.setIfInBounds_toArray, List.set_cons_zero, List.set_cons_succ, Nat.reduceAdd, f7]
          go_wp2
          go_ret
          exact ⟨rfl, BF⟩
end Go.Proofs.Ytplkmbdoecepeaa
