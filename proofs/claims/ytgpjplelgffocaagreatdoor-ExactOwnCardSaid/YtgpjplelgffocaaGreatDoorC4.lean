/- Part 4 of the library of this claim: what the program and the document compute, as contracts of their functions. -/
import Derived.Test.YtgpjplelgffocaaGreatDoorC3
import Derived.KernelRfl
import Derived.Deep.DeepCutAuto
set_option maxRecDepth 100000
set_option maxHeartbeats 8000000
namespace Go.Proofs.YtgpjplelgffocaaGreatDoor
open Go.RowKit Go.Proofs.YtgpjplelgffocaaGreatDoorW.PrintWords Limb
set_option linter.unusedVariables false
set_option linter.unusedSimpArgs false

def finB (x : Nat) : Bool := decide (x % 9223372036854775808 < 9218868437227405312)
def errB (b : Bool) : Int := if b = true then 0 else 5
def fromV (x : Nat) : Int := if finB x = true then valI x else 0
theorem valI_small {x : Nat} (hf : x % 9223372036854775808 < 9218868437227405312) : (valI x).natAbs < 2 ^ 2098 := by
 unfold valI
 rw [sgn_abs]
 have h1 : (if x / 4503599627370496 % 2048 = 0 then x % 4503599627370496 else 4503599627370496 + x % 4503599627370496) < 2 ^ 53 := by split <;> omega
 have h2 : x / 4503599627370496 % 2048 - 1 ≤ 2045 := by omega
 generalize (if x / 4503599627370496 % 2048 = 0 then x % 4503599627370496 else 4503599627370496 + x % 4503599627370496) = a at h1
 generalize x / 4503599627370496 % 2048 - 1 = k at h2
 refine Nat.lt_of_lt_of_le (Nat.mul_lt_mul_of_pos_right h1 (Nat.two_pow_pos k)) ?_
 rw [← Nat.pow_add]
 exact pow_le2 (53 + k) 2098 (by omega)
theorem fromV_small (x : Nat) : (fromV x).natAbs < 2 ^ 2098 := by
 unfold fromV
 split
 · rename_i h; exact valI_small (of_decide_eq_true h)
 · show 0 < 2 ^ 2098
   exact Nat.two_pow_pos 2098
theorem from_one (x : Nat) (hx : x < 18446744073709551616) (w : World) (hT : TabAt 0 Lib.deBruijn64tab w) :
 Calls Tryz.prog 17 #[.int .u64 (x : Int)] w fun e w' => ∃ v, e = .returned (.tuple #[v, .int .i64 (errB (finB x))]) ∧ PDy w' w.heap.size v (fromV x) (-1074) ∧ Below w.heap.size w w' := by
 by_cases h : x % 9223372036854775808 < 9218868437227405312
 · have hb : finB x = true := decide_eq_true h
   unfold fromV errB
   rw [if_pos hb, if_pos hb]
   exact pfrom_any x hx h w hT
 · have hb : ¬ finB x = true := by unfold finB; rw [decide_eq_false h]; decide
   unfold fromV errB
   rw [if_neg hb, if_neg hb]
   exact (pfrom_none x hx h w).mono fun en w' q => ⟨_, q.1, PDy.zero _ _ _, q.2⟩
def isF (f : Nat) : Bool := decide (1 ≤ f ∧ f ≤ 30)
def domF (f x : Nat) : Bool := isF f && finB x && insideF f (fromV x)
theorem is_one (f : Nat) (hf : f < 256) (w : World) : Calls Tryz.prog 9 #[.int .u8 f] w fun en w' => en = .returned (.bool (isF f)) ∧ Below w.heap.size w w' := is_fn f hf w

theorem domain_any (f x : Nat) (hf : f < 256) (hx : x < 18446744073709551616) (w : World) (hT : TabAt 0 Lib.deBruijn64tab w) :
 Calls Tryz.prog 13 #[.int .u8 f, .int .u64 (x : Int)] w fun en w' => en = .returned (.bool (domF f x)) ∧ Below w.heap.size w w' := by
 have HT := yk hT
 have HF := yk hf
 have QFr := yk (fun (W : World) (ht : TabAt 0 Lib.deBruijn64tab W) => from_one x hx W ht)
 have QIn := yk (fun (v : Value) (W : World) (h : CDy W v (fromV x) (-1074)) (ht : TabAt 0 Lib.deBruijn64tab W) => inside_any (f := f) h (fromV_small x) ht)
 have HD := yk (show domF f x = (isF f && finB x && insideF f (fromV x)) from rfl)
 obtain ⟨D, hD⟩ : ∃ D, D = domF f x := ⟨_, rfl⟩
 rw [← hD] at HD ⊢
 generalize fromV x = z at *
 generalize insideF f z = ins at *
 have QIs := yk (fun (W : World) => is_one f hf W)
 clear hT hf hx hD
 generalize isF f = isf at *
 generalize finB x = fin at *
 go_enter Tryz.func13, Tryz.ntmps13
 have BEL := yk (BelN.zero w)
 go_wp2_with fail
 go_at_call 17
 refine (QFr.out _ HT.out).mono ?_
 rintro en1 w1 ⟨v1, rfl, hr, hb⟩
 replace BEL := yk (BEL.out.next hb)
 have P1 := yk hr
 obtain ⟨b1, A1, n1, c1, x1, rfl⟩ := hr.ex
 clear hr hb
 have BELo := BEL
 go_wp2_with (replace BEL := yk ((BEL.out.alloc (.cells #[.bool false, .slice none 0 0, .int .i64 0] 27)).less (j := 0) (by omega)); have HN := yk (blk_new w1 (.cells #[.bool false, .slice none 0 0, .int .i64 0] 27)); replace P1 := yk (P1.out.below (below_alloc yr (.cells #[.bool false, .slice none 0 0, .int .i64 0] 27))); ((with_reducible refine gate_store (p := 5) rfl ?_); go_must (refine sdy 5 (.tmp 10) rfl rfl rfl rfl rfl HN.out rfl ?_; intro wb HX HG)); replace P1 := yk (P1.out.grown_box HN.out (by decide) HG.out); have LB_XD := BELo.out.2; replace BEL := yk (BEL.out.grown HG.out (Nat.le_trans (Nat.le_add_right _ _) LB_XD)); have LL_XD := yk LB_XD; clear LB_XD; have XD := HX; clear HG HN HX)
 go_at_call 9
 refine (QIs.out _).mono ?_
 rintro en2 w2 ⟨rfl, hb⟩
 replace BEL := yk (BEL.out.next hb)
 replace XD := yk (yb XD.out hb)
 replace P1 := yk (P1.out.below hb)
 clear hb
 cases isf
 case false =>
  go_wp2_with fail
  go_ret
  exact ⟨ret_bool (by rw [HD.out]; rfl), BEL.out.1⟩
 case true =>
  cases fin
  case false =>
   have he : errB false = 5 := rfl
   go_wp2_with fail
   go_ret
   exact ⟨ret_bool (by rw [HD.out]; rfl), BEL.out.1⟩
  case true =>
   have he : errB true = 0 := rfl
   obtain ⟨q0, q0', q1, q1', q2, q2'⟩ := bc3 XD.out
   go_wp2_with fail
   clear q0 q0' q1 q1' q2 q2'
   go_at_call 23
   refine (QIn.out _ _ P1.out.c (tab_below HT.out BEL.out.1)).mono ?_
   rintro en3 w3 ⟨rfl, hb⟩
   replace BEL := yk (BEL.out.next hb)
   replace XD := yk (yb XD.out hb)
   replace P1 := yk (P1.out.below hb)
   clear hb
   go_wp2_with fail
   go_ret
   exact ⟨ret_bool (by rw [HD.out]; rfl), BEL.out.1⟩

def caseG (f : Nat) (z : Int) : Option (Int × Int) := ((caseL[f - 1]?).getD (fun _ => none)) z
def exE (f x : Nat) : Int := if isF f = true then (if domF f x = true then 0 else 5) else 2
def exO (f x : Nat) : Option (Int × Int) := if isF f = true ∧ domF f x = true then caseG f (fromV x) else none
theorem IsClo.lower {w : World} {b b' : Nat} {v : Value} {G : Int → Option (Int × Int)} (h : IsClo w b v G) (hb : b' ≤ b) : IsClo w b' v G := by
 induction h with
 | atc h1 h2 hP hn => exact .atc h1 h2 (hP.lower hb) hn
 | pow2 h1 h2 h3 h4 a b c d e => exact .pow2 h1 h2 h3 h4 a b c d e
 | pow10 h1 h2 h3 h4 a b c d e f g => exact .pow10 h1 h2 h3 h4 a b c d e f g
 | log2 h1 h2 h3 a b => exact .log2 h1 h2 h3 a b
 | log10 h1 h2 h3 a b => exact .log10 h1 h2 h3 a b
 | turned h1 a => exact .turned h1 a
 | first h1 h2 _ _ _ i0 i1 i2 => exact .first h1 h2 i0 i1 i2
def HasMap (w : World) (b : Nat) (v : Value) : Prop := ∃ m, v = .map (some m) ∧ MapC w b m caseL
theorem HasMap.later {w w1 : World} {b : Nat} {v : Value} (h : HasMap w b v) (hb : Below w.heap.size w w1) : HasMap w1 b v := by
 obtain ⟨m, h1, h2⟩ := h; exact ⟨m, h1, h2.later hb⟩
def HasClo (w : World) (b : Nat) (v : Value) (G : Int → Option (Int × Int)) : Prop := ∃ n cap, v = .func (.func n) #[] cap ∧ Clo w b n cap G
theorem HasClo.later {w w1 : World} {b : Nat} {v : Value} {G : Int → Option (Int × Int)} (h : HasClo w b v G) (hb : Below w.heap.size w w1) : HasClo w1 b v G := by
 obtain ⟨n, c, h1, h2⟩ := h; exact ⟨n, c, h1, h2.below hb⟩
theorem HasMap.get {w : World} {b f : Nat} {v : Value} (h : HasMap w b v) (hb : b ≤ w.heap.size) (h1 : 1 ≤ f) (h2 : f ≤ 30) :
 ∃ m n cap, v = .map (some m) ∧ (Instr.lookup 42 (.map (some m)) (.int .u8 (f : Int)) false).run Tryz.prog w = .ok (.func (.func n) #[] cap) w ∧ Clo w b n cap (caseG f) := by
 obtain ⟨m, rfl, L, h3, h4, h5⟩ := h
 have h30 : caseL.length = 30 := rfl
 obtain ⟨v, hv⟩ : ∃ v, L[f - 1]? = some v := ⟨_, List.getElem?_eq_getElem (by omega)⟩
 obtain ⟨G, hG⟩ : ∃ G, caseL[f - 1]? = some G := ⟨_, List.getElem?_eq_getElem (by omega)⟩
 obtain ⟨n, cap, rfl, hc⟩ := (h5 _ _ _ hv hG).call hb
 have h6 := map_lookup h3 hv
 rw [show ((f - 1 : Nat) : Int) + 1 = (f : Int) by omega] at h6
 have h7 : caseG f = G := by
  funext z; unfold caseG; rw [hG]; rfl
 exact ⟨m, n, cap, rfl, h6, by rw [h7]; exact hc⟩
theorem isF_range {f : Nat} (h : isF f = true) : 1 ≤ f ∧ f ≤ 30 := of_decide_eq_true h

theorem exact_any (f x : Nat) (hf : f < 256) (hx : x < 18446744073709551616) (w : World) (hT : TabAt 0 Lib.deBruijn64tab w) :
 Calls Tryz.prog 5 #[.int .u8 f, .int .u64 (x : Int)] w fun en w' => ∃ v', en = .returned (.tuple #[v', .bool (exO f x).isSome, .int .i64 (exE f x)]) ∧ PDy w' w.heap.size v' ((exO f x).getD (0, 0)).1 ((exO f x).getD (0, 0)).2 ∧ Below w.heap.size w w' := by
 have HT := yk hT
 have HF := yk hf
 have QFr := yk (fun (W : World) (ht : TabAt 0 Lib.deBruijn64tab W) => from_one x hx W ht)
 have QD := yk (fun (W : World) (ht : TabAt 0 Lib.deBruijn64tab W) => domain_any f x hf hx W ht)
 have QIs := yk (fun (W : World) => is_one f hf W)
 have HE := yk (show exE f x = if isF f = true then (if domF f x = true then 0 else 5) else 2 from rfl)
 have HO := yk (show exO f x = if isF f = true ∧ domF f x = true then caseG f (fromV x) else none from rfl)
 have HZ := yk (fromV_small x)
 have HFin := yk (show domF f x = true → finB x = true from fun h => by
  unfold domF at h
  simp only [Bool.and_eq_true] at h
  exact h.1.2)
 have HIR := yk (isF_range (f := f))
 obtain ⟨eo, heo⟩ : ∃ o, o = exO f x := ⟨_, rfl⟩
 obtain ⟨ee, hee⟩ : ∃ o, o = exE f x := ⟨_, rfl⟩
 rw [← heo] at HO ⊢
 rw [← hee] at HE ⊢
 clear hT hf hx heo hee
 generalize fromV x = z at *
 generalize isF f = isf at *
 generalize domF f x = dom at *
 generalize finB x = fin at *
 go_enter Tryz.func5, Tryz.ntmps5
 obtain ⟨BEL, XR⟩ := al1 w 1 #[.bool false, .slice none 0 0, .int .i64 0] 27
 go_wp2_with fail
 go_at_call 9
 refine (QIs.out _).mono ?_
 rintro en1 w1 ⟨rfl, hb⟩
 replace BEL := yk (BEL.out.next hb)
 replace XR := yk (yb XR.out hb)
 clear hb
 cases isf
 case false =>
  have HEE : Aside0 (ee = 2) := ⟨by rw [HE.out]; rfl⟩
  have HOO : Aside0 (eo = none) := ⟨by rw [HO.out, if_neg (fun h => by cases h.1)]⟩
  go_wp2_with (((with_reducible refine gate_store (p := 4) rfl ?_); go_must (refine sdy 4 (.tmp 14) rfl rfl rfl rfl rfl XR.out rfl ?_; intro wb HX HG)); replace BEL := yk (BEL.out.grown HG.out (by omega)); replace XR := HX; clear HG)
  refine bodyPost_ret (results_list (rs := [.cell 4 27, .tmp 5, .tmp 6]) rfl (by simp) (Vals.box any_dyad info_dyad (g := w.heap.size) rfl XR.out rfl (.tmp (.tmp .nil)))) rfl ?_
  rw [HEE.out, HOO.out]
  exact ⟨_, rfl, PDy.zero _ _ _, BEL.out.1⟩
 case true =>
  go_wp2_with fail
  go_at_call 13
  refine (QD.out _ (tab_below HT.out BEL.out.1)).mono ?_
  rintro en2 w2 ⟨rfl, hb⟩
  replace BEL := yk (BEL.out.next hb)
  replace XR := yk (yb XR.out hb)
  clear hb
  cases dom
  case false =>
   have HEE : Aside0 (ee = 5) := ⟨by rw [HE.out]; rfl⟩
   have HOO : Aside0 (eo = none) := ⟨by rw [HO.out, if_neg (fun h => by cases h.2)]⟩
   go_wp2_with (((with_reducible refine gate_store (p := 4) rfl ?_); go_must (refine sdy 4 (.tmp 20) rfl rfl rfl rfl rfl XR.out rfl ?_; intro wb HX HG)); replace BEL := yk (BEL.out.grown HG.out (by omega)); replace XR := HX; clear HG)
   refine bodyPost_ret (results_list (rs := [.cell 4 27, .tmp 5, .tmp 6]) rfl (by simp) (Vals.box any_dyad info_dyad (g := w.heap.size) rfl XR.out rfl (.tmp (.tmp .nil)))) rfl ?_
   rw [HEE.out, HOO.out]
   exact ⟨_, rfl, PDy.zero _ _ _, BEL.out.1⟩
  case true =>
   have hfin := HFin.out (by simp)
   subst hfin
   have HEE : Aside0 (ee = 0) := ⟨by rw [HE.out]; rfl⟩
   have HOO : Aside0 (eo = caseG f z) := ⟨by rw [HO.out, if_pos (by simp)]⟩
   have HR := yk (HIR.out (by simp))
   clear HIR
   go_wp2_with fail
   go_at_call 17
   refine (QFr.out _ (tab_below HT.out BEL.out.1)).mono ?_
   have BL0 := BEL
   rintro en3 w3 ⟨v3, rfl, hr, hb⟩
   replace BEL := yk (BEL.out.next hb)
   replace XR := yk (yb XR.out hb)
   have P1 := yk hr
   obtain ⟨b3, A3, n3, c3, x3, rfl⟩ := hr.ex
   clear hr hb
   have BL := BEL
   have BELo := BEL
   go_wp2_with (replace BEL := yk ((BEL.out.alloc (.cells #[.bool false, .slice none 0 0, .int .i64 0] 27)).less (j := 1) (by omega)); have HN := yk (blk_new w3 (.cells #[.bool false, .slice none 0 0, .int .i64 0] 27)); have L_XR := lt_blk XR.out; replace XR := yk (blk_alloc XR.out (.cells #[.bool false, .slice none 0 0, .int .i64 0] 27)); replace P1 := yk (P1.out.below (below_alloc yr (.cells #[.bool false, .slice none 0 0, .int .i64 0] 27))); ((with_reducible refine gate_store (p := 7) rfl ?_); go_must (refine sdy 7 (.tmp 24) rfl rfl rfl rfl rfl HN.out rfl ?_; intro wb HX HG)); replace P1 := yk (P1.out.grown_box HN.out (by decide) HG.out); have LB_XD := BELo.out.2; replace BEL := yk (BEL.out.grown HG.out (Nat.le_trans (Nat.le_add_right _ _) LB_XD)); replace XR := yk (blk_grown XR.out HG.out (Nat.ne_of_lt L_XR)); have NE_XR_XD := yk (Nat.ne_of_lt L_XR); clear L_XR; have LL_XD := yk LB_XD; clear LB_XD; have XD := HX; clear HG HN HX)
   obtain ⟨GM, hGM⟩ : ∃ G : (Nat → Prop) → (Nat → Value) → World → Prop, G = fun L v W => BelN wb 0 W ∧ W.heap[w.heap.size]? = some (.cells #[.bool false, .slice none 0 0, .int .i64 0] 27 (0, 0)) ∧ W.heap[w3.heap.size]? = some (.cells #[.bool b3, .slice A3 n3 c3, .int .i64 x3] 27 (0, 0)) ∧ PDy W w.heap.size (.agg #[.bool b3, .slice A3 n3 c3, .int .i64 x3]) z (-1074) ∧ (L 0 → (¬ L 6 → HasMap W w.heap.size (v 0))) ∧ (L 1 → (v 1) = .int .u8 (f : Int)) ∧ (L 2 → (¬ L 6 → HasClo W w.heap.size (v 2) (caseG f))) ∧ (L 3 → (v 3) = .agg #[.bool b3, .slice A3 n3 c3, .int .i64 x3]) ∧ (L 4 → PO W w.heap.size (v 4) (caseG f z)) ∧ (L 5 → ∃ g : Nat, (v 5) = .pointer (some ⟨g, 0, none⟩) ∧ wb.heap.size + 0 ≤ g ∧ (¬ L 6 → W.heap[g]? = some (.cells #[.bool false, .slice none 0 0, .int .i64 0, .bool false] 40 (0, 0))) ∧ (L 6 → ∃ (bb : Bool) (A : Option Addr) (n c : Nat) (x : Int) (b2 : Bool), (v 4) = .agg #[.bool bb, .slice A n c, .int .i64 x, .bool b2] ∧ W.heap[g]? = some (.cells #[.bool bb, .slice A n c, .int .i64 x, .bool b2] 40 (0, 0)))) ∧ True := ⟨_, rfl⟩
   refine wp_region_slotsV [26, 27, 28, 29, 30, 9] (by kernel_rfl) (by kernel_rfl) (G := GM) ?h0M ?hstepM ?hendM
   case h0M =>
    intro v; rw [hGM]
    exact ⟨(BelN.zero wb).next (below_drew yr), blk_drew XR.out, blk_drew XD.out, (P1.out.below (below_drew yr)).lower BL0.out.1.size, fun h => h.elim, fun h => h.elim, fun h => h.elim, fun h => h.elim, fun h => h.elim, fun h => h.elim, trivial⟩
   case hstepM =>
    intro k o ho v W L hGv hnk haft hcl K hK
    rw [hGM] at hGv
    obtain ⟨hB, hb0, hb1, hk0, f0, f1, f2, f3, f4, f5, f6⟩ := hGv
    rcases k with _ | _ | _ | _ | _ | _ | _ | k
    all_goals first
     | (cases ho; done)
     | (obtain rfl := (Option.some.inj ho).symm
        clear ho
        rw [if_pos (by rfl)]
        simp only [setAll, List.setIfInBounds_toArray, List.set_cons_zero, List.set_cons_succ, List.set_nil, List.getElem_toArray, List.getElem_cons_zero, List.getElem_cons_succ, Nat.reduceAdd] at haft hK ⊢)
    ·
     have HALL := yk (ya hK (ya hB (ya hb0 ( ya hb1 ( ya hk0 ( ya f0 ( ya f1 ( ya f2 ( ya f3 ( ya f4 ( ya f5 ( ya f6 (True.intro)))))))))))))
     clear hK hb0 hb1 hk0 f0 f1 f2 f3 f4 f5 f6
     go_simp
     go_at_call 18
     refine (cases_any W (tab_below HT.out (BEL.out.next hB.1).1)).mono ?_
     rintro en w4 ⟨m1, rfl, hr, hb⟩
     obtain ⟨hK, hB, hb0, hb1, hk0, f0, f1, f2, f3, f4, f5, f6, _⟩ := HALL.out
     have key := hK.out (.map (some m1)) w4 (by rw [hGM]; exact ⟨hB.next hb, yb hb0 hb, yb hb1 hb, hk0.below hb, fun _ => by rw [upd_eq]; exact (fun _ => ⟨m1, rfl, (by obtain ⟨L1, q1, q2, q3⟩ := hr; exact ⟨L1, q1, q2, fun i v G hv hG => (q3 i v G hv hG).lower (BEL.out.next hB.1).1.size⟩)⟩), (kV f1), (fun h => by rw [upd_ne v _ (by decide)]; exact (fun h6 => (f2 (yx h) (fun h => h6 (.inl h))).later hb)), (kV f3), (fun h => by rw [upd_ne v _ (by decide)]; exact (f4 (yx h)).below hb), (fun h => by obtain ⟨g, e1, e2, e3, e4⟩ := f5 (yx h); rw [upd_ne v _ (by decide), upd_ne v _ (by decide)]; exact ⟨g, e1, e2, fun h2 => yb (e3 (fun h3 => h2 (.inl h3))) hb, fun h2 => by obtain ⟨bb, A, n, c, x, b2, y1, y2⟩ := e4 (yx h2); exact ⟨bb, A, n, c, x, b2, y1, yb y2 hb⟩⟩), trivial⟩)
     clear hb0 hb1 hk0 f0 f1 f2 f3 f4 f5 f6 hK HALL
     simpa [upd] using key
    ·
     have hb := yw W
     have key := hK.out (.int .u8 (f : Int)) W (by rw [hGM]; exact ⟨hB.next hb, yb hb0 hb, yb hb1 hb, hk0.below hb, (fun h => by rw [upd_ne v _ (by decide)]; exact (fun h6 => (f0 (yx h) (fun h => h6 (.inl h))).later hb)), yu, (fun h => by rw [upd_ne v _ (by decide)]; exact (fun h6 => (f2 (yx h) (fun h => h6 (.inl h))).later hb)), (kV f3), (fun h => by rw [upd_ne v _ (by decide)]; exact (f4 (yx h)).below hb), (fun h => by obtain ⟨g, e1, e2, e3, e4⟩ := f5 (yx h); rw [upd_ne v _ (by decide), upd_ne v _ (by decide)]; exact ⟨g, e1, e2, fun h2 => yb (e3 (fun h3 => h2 (.inl h3))) hb, fun h2 => by obtain ⟨bb, A, n, c, x, b2, y1, y2⟩ := e4 (yx h2); exact ⟨bb, A, n, c, x, b2, y1, yb y2 hb⟩⟩), trivial⟩)
     clear hb0 hb1 hk0 f0 f1 f2 f3 f4 f5 f6 hb hK
     go_simp
     simpa [upd] using key
    ·
     have d0 := f0 (haft ⟨0, .data⟩ (by simp) rfl)
     have D0 := d0
     have d1 := f1 (haft ⟨1, .data⟩ (by simp) rfl)
     have D1 := d1
     have hns6 : ¬ L 6 := fun hs => hnk (hcl 6 _ rfl hs ⟨2, .phase⟩ (by simp) rfl)
     have HALL := yk (ya hK (ya hB (ya hb0 ( ya hb1 ( ya hk0 ( ya f0 ( ya f1 ( ya f2 ( ya f3 ( ya f4 ( ya f5 ( ya f6 (True.intro)))))))))))))
     clear hK hb0 hb1 hk0 f0 f1 f2 f3 f4 f5 f6
     have hb := yw W
     obtain ⟨m0, n0, cap0, e0, hlk, hcl0⟩ := (d0 hns6).get (BEL.out.next hB.1).1.size HR.out.1 HR.out.2
     go_simp
     obtain ⟨hK, hB, hb0, hb1, hk0, f0, f1, f2, f3, f4, f5, f6, _⟩ := HALL.out
     have key := hK.out (.func (.func n0) #[] cap0) W (by rw [hGM]; exact ⟨hB.next hb, yb hb0 hb, yb hb1 hb, hk0.below hb, (fun h => by rw [upd_ne v _ (by decide)]; exact (fun h6 => (f0 (yx h) (fun h => h6 (.inl h))).later hb)), (kV f1), fun _ => by rw [upd_eq]; exact (fun _ => ⟨n0, cap0, rfl, hcl0⟩), (kV f3), (fun h => by rw [upd_ne v _ (by decide)]; exact (f4 (yx h)).below hb), (fun h => by obtain ⟨g, e1, e2, e3, e4⟩ := f5 (yx h); rw [upd_ne v _ (by decide), upd_ne v _ (by decide)]; exact ⟨g, e1, e2, fun h2 => yb (e3 (fun h3 => h2 (.inl h3))) hb, fun h2 => by obtain ⟨bb, A, n, c, x, b2, y1, y2⟩ := e4 (yx h2); exact ⟨bb, A, n, c, x, b2, y1, yb y2 hb⟩⟩), trivial⟩)
     clear hb0 hb1 hk0 f0 f1 f2 f3 f4 f5 f6 hK HALL
     simpa [upd, D1, e0, D1] using key
    ·
     have cc0 := (box_cell (v := .bool b3) hb1 0 rfl).1
     have cc1 := (box_cell (v := .slice A3 n3 c3) hb1 1 rfl).1
     have cc2 := (box_cell (v := .int .i64 x3) hb1 2 rfl).1
     have hb := yw W
     have key := hK.out (.agg #[.bool b3, .slice A3 n3 c3, .int .i64 x3]) W (by rw [hGM]; exact ⟨hB.next hb, yb hb0 hb, yb hb1 hb, hk0.below hb, (fun h => by rw [upd_ne v _ (by decide)]; exact (fun h6 => (f0 (yx h) (fun h => h6 (.inl h))).later hb)), (kV f1), (fun h => by rw [upd_ne v _ (by decide)]; exact (fun h6 => (f2 (yx h) (fun h => h6 (.inl h))).later hb)), yu, (fun h => by rw [upd_ne v _ (by decide)]; exact (f4 (yx h)).below hb), (fun h => by obtain ⟨g, e1, e2, e3, e4⟩ := f5 (yx h); rw [upd_ne v _ (by decide), upd_ne v _ (by decide)]; exact ⟨g, e1, e2, fun h2 => yb (e3 (fun h3 => h2 (.inl h3))) hb, fun h2 => by obtain ⟨bb, A, n, c, x, b2, y1, y2⟩ := e4 (yx h2); exact ⟨bb, A, n, c, x, b2, y1, yb y2 hb⟩⟩), trivial⟩)
     clear hb0 hb1 hk0 f0 f1 f2 f3 f4 f5 f6 hb hK
     go_simp
     simpa [upd] using key
    ·
     have hns6 : ¬ L 6 := fun hs => hnk (hcl 6 _ rfl hs ⟨4, .data⟩ (by simp) rfl)
     have d2 := f2 (haft ⟨2, .data⟩ (by simp) rfl)
     have D2 := d2
     have d3 := f3 (haft ⟨3, .data⟩ (by simp) rfl)
     have D3 := d3
     have K1 := hk0
     have HALL := yk (ya hK (ya hB (ya hb0 ( ya hb1 ( ya hk0 ( ya f0 ( ya f1 ( ya f2 ( ya f3 ( ya f4 ( ya f5 ( ya f6 (True.intro)))))))))))))
     clear hK hb0 hb1 hk0 f0 f1 f2 f3 f4 f5 f6
     obtain ⟨n2, cap2, e2, hcl2⟩ := d2 hns6
     have hcf := hcl2.1
     unfold Enters at hcf
     go_simp
     refine (hcl2.2 W _ z yr K1.c HZ.out (tab_below HT.out (BEL.out.next hB.1).1)).mono ?_
     rintro en w4 ⟨v1, rfl, hr, hb⟩
     obtain ⟨hK, hB, hb0, hb1, hk0, f0, f1, f2, f3, f4, f5, f6, _⟩ := HALL.out
     have key := hK.out (v1) w4 (by rw [hGM]; exact ⟨hB.next hb, yb hb0 hb, yb hb1 hb, hk0.below hb, (fun h => by rw [upd_ne v _ (by decide)]; exact (fun h6 => (f0 (yx h) (fun h => h6 (.inl h))).later hb)), (kV f1), (fun h => by rw [upd_ne v _ (by decide)]; exact (fun h6 => (f2 (yx h) (fun h => h6 (.inl h))).later hb)), (kV f3), fun _ => by rw [upd_eq]; exact hr, (fun h => by obtain ⟨g, e1, e2, e3, e4⟩ := f5 (yx h); rw [upd_ne v _ (by decide)]; exact ⟨g, e1, e2, fun h2 => yb (e3 (fun h3 => h2 (.inl h3))) hb, fun h2 => (hns6 (yx h2)).elim⟩), trivial⟩)
     clear hb0 hb1 hk0 f0 f1 f2 f3 f4 f5 f6 hK HALL
     simpa [upd, D3, e2] using key
    ·
     have hns6 : ¬ L 6 := fun hs => hnk (hcl 6 _ rfl hs ⟨5, .data⟩ (by simp) rfl)
     have hb := below_alloc (yw W) (.cells #[.bool false, .slice none 0 0, .int .i64 0, .bool false] 40)
     have key := hK.out (.pointer (some ⟨W.heap.size, 0, none⟩)) (W.alloc (.cells #[.bool false, .slice none 0 0, .int .i64 0, .bool false] 40)) (by rw [hGM]; exact ⟨hB.next hb, yb hb0 hb, yb hb1 hb, hk0.below hb, (fun h => by rw [upd_ne v _ (by decide)]; exact (fun h6 => (f0 (yx h) (fun h => h6 (.inl h))).later hb)), (kV f1), (fun h => by rw [upd_ne v _ (by decide)]; exact (fun h6 => (f2 (yx h) (fun h => h6 (.inl h))).later hb)), (kV f3), (fun h => by rw [upd_ne v _ (by decide)]; exact (f4 (yx h)).below hb), fun _ => by rw [upd_eq]; exact ⟨W.heap.size, rfl, hB.2, fun _ => blk_new W _, fun h2 => (hns6 (yx h2)).elim⟩, trivial⟩)
     clear hb0 hb1 hk0 f0 f1 f2 f3 f4 f5 f6 hK hb hns6
     go_simp
     simpa [upd] using key
    ·
     have l0 := lt_blk XR.out
     have l1 := lt_blk XD.out
     obtain ⟨g, e1, e2, e3, -⟩ := f5 (haft ⟨5, .data⟩ (by simp) rfl)
     have hgb := e3 hnk
     have ds := f4 (haft ⟨4, .data⟩ (by simp) rfl)
     obtain ⟨bb, A, n, c, x, b2, es⟩ := ds.ex
     refine wp_store_box 40 9 (.tmp 30) rfl rfl (g := g) (e := 40) (v 4) [.bool bb, .slice A n c, .int .i64 x, .bool b2] (by first | rfl | exact e1) rfl (by rw [es]; rfl) info_told ?_ hgb rfl ?_
     · intro q hq; simp at hq; rcases hq with rfl | rfl | rfl | rfl <;> rfl
     · intro w1 hw1 hg
       have key := hK.out undef w1 (by rw [hGM]; exact ⟨hB.grown hg (by omega), blk_grown hb0 hg (by omega), blk_grown hb1 hg (by omega), hk0.grown_box hgb (by decide) hg, (fun h => by rw [upd_ne v _ (by decide)]; exact (fun h6 => (h6 (.inr rfl)).elim)), (kV f1), (fun h => by rw [upd_ne v _ (by decide)]; exact (fun h6 => (h6 (.inr rfl)).elim)), (kV f3), (fun h => by rw [upd_ne v _ (by decide)]; exact (f4 (yx h)).grown_box hgb (by decide) hg), (fun h => by rw [upd_ne v _ (by decide), upd_ne v _ (by decide)]; exact ⟨g, e1, e2, fun h2 => (h2 (.inr rfl)).elim, fun _ => ⟨bb, A, n, c, x, b2, es, hw1⟩⟩), trivial⟩)
       clear hb0 hb1 hk0 f0 f1 f2 f3 f4 f5 f6 hK
       simpa [upd] using key
   case hendM =>
    intro v W L0 hall hGv
    rw [hGM] at hGv
    obtain ⟨hB, hb0, hb1, hk0, f0, f1, f2, f3, f4, f5, _⟩ := hGv
    have d4 := f4 (hall 4 (by decide))
    obtain ⟨g, p5, hgs, _, hg5⟩ := f5 (hall 5 (by decide))
    obtain ⟨b9, A9, n9, c9, x9, s9, p9, hx9⟩ := hg5 (hall 6 (by decide))
    rw [p9] at d4
    have l0 := lt_blk XR.out
    have HGN := yk (show w.heap.size ≠ g by omega)
    clear l0
    replace BEL := yk (BEL.out.next hB.1)
    replace XR := yk hb0
    have XT := yk hx9
    have P9 := yk d4
    clear hall f0 f1 f2 f3 f4 f5 hB hb0 hb1 d4 hx9 hg5 hgs hk0 XD P1
    simp only [setAll, List.setIfInBounds_toArray, List.set_cons_zero, List.set_cons_succ, List.set_nil, Nat.reduceAdd, p5, p9]
    go_upto_region 7 with fail
    obtain ⟨GN, hGN⟩ : ∃ G : (Nat → Prop) → (Nat → Value) → World → Prop, G = fun L v W => BelN w 1 W ∧ W.heap[g]? = some (.cells #[.bool b9, .slice A9 n9 c9, .int .i64 x9, .bool s9] 40 (0, 0)) ∧ PO W w.heap.size (.agg #[.bool b9, .slice A9 n9 c9, .int .i64 x9, .bool s9]) (caseG f z) ∧ (L 0 → (v 0) = .pointer (some ⟨g, 0, none⟩)) ∧ (L 1 → (v 1) = .agg #[.bool b9, .slice A9 n9 c9, .int .i64 x9]) ∧ (L 2 → (v 2) = .pointer (some ⟨g, 3, none⟩)) ∧ (L 3 → (v 3) = .bool s9) ∧ ((¬ L 4 → W.heap[w.heap.size]? = some (.cells #[.bool false, .slice none 0 0, .int .i64 0] 27 (0, 0))) ∧ (L 4 → W.heap[w.heap.size]? = some (.cells #[.bool b9, .slice A9 n9 c9, .int .i64 x9] 27 (0, 0)))) ∧ (L 5 → (v 5) = .bool s9) ∧ (L 6 → (v 6) = .int .i64 0) := ⟨_, rfl⟩
    refine wp_region_slotsV [31, 32, 33, 34, 99, 5, 6] (by kernel_rfl) (by kernel_rfl) (G := GN) ?h0N ?hstepN ?hendN
    case h0N =>
     intro v; rw [hGN]
     exact ⟨BEL.out.next (below_drew yr), blk_drew XT.out, P9.out.below (below_drew yr), fun h => h.elim, fun h => h.elim, fun h => h.elim, fun h => h.elim, ⟨fun _ => blk_drew XR.out, fun h => h.elim⟩, fun h => h.elim, fun h => h.elim⟩
    case hstepN =>
     intro k o ho v W L hGv hnk haft hcl K hK
     rw [hGN] at hGv
     obtain ⟨hB, hb0, hk0, f0, f1, f2, f3, f4, f5, f6⟩ := hGv
     rcases k with _ | _ | _ | _ | _ | _ | _ | k
     all_goals first
      | (cases ho; done)
      | (obtain rfl := (Option.some.inj ho).symm
         clear ho
         rw [if_pos (by rfl)]
         simp only [setAll, List.setIfInBounds_toArray, List.set_cons_zero, List.set_cons_succ, List.set_nil, List.getElem_toArray, List.getElem_cons_zero, List.getElem_cons_succ, Nat.reduceAdd] at haft hK ⊢)
     ·
      have hb := yw W
      have key := hK.out (.pointer (some ⟨g, 0, none⟩)) W (by rw [hGN]; exact ⟨hB.next hb, yb hb0 hb, hk0.below hb, yu, (kV f1), (kV f2), (kV f3), (⟨fun h2 => yb (f4.1 (fun h3 => h2 (.inl h3))) hb, fun h2 => yb (f4.2 (yx h2)) hb⟩), (kV f5), (kV f6)⟩)
      clear hb0 hk0 f0 f1 f2 f3 f4 f5 f6 hb hK
      go_simp
      simpa [upd] using key
     ·
      have hns4 : ¬ L 4 := fun hs => hnk (hcl 4 _ rfl hs ⟨1, .data⟩ (by simp) rfl)
      have d0 := f0 (haft ⟨0, .data⟩ (by simp) rfl)
      have D0 := d0
      have cc0 := (box_cell (v := .bool b9) hb0 0 rfl).1
      have cc1 := (box_cell (v := .slice A9 n9 c9) hb0 1 rfl).1
      have cc2 := (box_cell (v := .int .i64 x9) hb0 2 rfl).1
      have hb := yw W
      have key := hK.out (.agg #[.bool b9, .slice A9 n9 c9, .int .i64 x9]) W (by rw [hGN]; exact ⟨hB.next hb, yb hb0 hb, hk0.below hb, (kV f0), yu, (kV f2), (kV f3), (⟨fun h2 => yb (f4.1 (fun h3 => h2 (.inl h3))) hb, fun h2 => (hns4 (yx h2)).elim⟩), (kV f5), (kV f6)⟩)
      clear hb0 hk0 f0 f1 f2 f3 f4 f5 f6 hb hK
      go_simp
      simpa [upd, D0] using key
     ·
      have hb := yw W
      have key := hK.out (.pointer (some ⟨g, 3, none⟩)) W (by rw [hGN]; exact ⟨hB.next hb, yb hb0 hb, hk0.below hb, (kV f0), (kV f1), yu, (kV f3), (⟨fun h2 => yb (f4.1 (fun h3 => h2 (.inl h3))) hb, fun h2 => yb (f4.2 (yx h2)) hb⟩), (kV f5), (kV f6)⟩)
      clear hb0 hk0 f0 f1 f2 f3 f4 f5 f6 hb hK
      go_simp
      simpa [upd] using key
     ·
      have d2 := f2 (haft ⟨2, .data⟩ (by simp) rfl)
      have D2 := d2
      have cc3 := (box_cell (v := .bool s9) hb0 3 rfl).1
      have hb := yw W
      have key := hK.out (.bool s9) W (by rw [hGN]; exact ⟨hB.next hb, yb hb0 hb, hk0.below hb, (kV f0), (kV f1), (kV f2), yu, (⟨fun h2 => yb (f4.1 (fun h3 => h2 (.inl h3))) hb, fun h2 => yb (f4.2 (yx h2)) hb⟩), (kV f5), (kV f6)⟩)
      clear hb0 hk0 f0 f1 f2 f3 f4 f5 f6 hb hK
      go_simp
      simpa [upd, D2] using key
     ·
      have h_g := HGN.out
      have hgb := f4.1 hnk
      have ds := f1 (haft ⟨1, .data⟩ (by simp) rfl)
      have es := ds
      refine wp_store_box 27 4 (.tmp 32) rfl rfl (g := w.heap.size) (e := 27) (v 1) [.bool b9, .slice A9 n9 c9, .int .i64 x9] (by first | rfl | exact rfl) rfl (by rw [es]; rfl) info_dyad ?_ hgb rfl ?_
      · intro q hq; simp at hq; rcases hq with rfl | rfl | rfl <;> rfl
      · intro w1 hw1 hg
        have key := hK.out undef w1 (by rw [hGN]; exact ⟨hB.grown hg (by omega), blk_grown hb0 hg (by omega), hk0.grown_box hgb (by decide) hg, (kV f0), (kV f1), (kV f2), (kV f3), ⟨fun h => (h (.inr rfl)).elim, fun _ => hw1⟩, (kV f5), (kV f6)⟩)
        clear hb0 hk0 f0 f1 f2 f3 f4 f5 f6 hK
        simpa [upd] using key
     ·
      have d3 := f3 (haft ⟨3, .data⟩ (by simp) rfl)
      have D3 := d3
      have hb := yw W
      have key := hK.out (.bool s9) W (by rw [hGN]; exact ⟨hB.next hb, yb hb0 hb, hk0.below hb, (kV f0), (kV f1), (kV f2), (kV f3), (⟨fun h2 => yb (f4.1 (fun h3 => h2 (.inl h3))) hb, fun h2 => yb (f4.2 (yx h2)) hb⟩), yu, (kV f6)⟩)
      clear hb0 hk0 f0 f1 f2 f3 f4 f5 f6 hb hK
      go_simp
      simpa [upd, D3] using key
     ·
      have hb := yw W
      have key := hK.out (.int .i64 0) W (by rw [hGN]; exact ⟨hB.next hb, yb hb0 hb, hk0.below hb, (kV f0), (kV f1), (kV f2), (kV f3), (⟨fun h2 => yb (f4.1 (fun h3 => h2 (.inl h3))) hb, fun h2 => yb (f4.2 (yx h2)) hb⟩), (kV f5), yu⟩)
      clear hb0 hk0 f0 f1 f2 f3 f4 f5 f6 hb hK
      go_simp
      simpa [upd] using key
    case hendN =>
     intro v W L0 hall hGv
     rw [hGN] at hGv
     obtain ⟨hB, hb0, hk0, f0, f1, f2, f3, f4, f5, f6⟩ := hGv
     have d5 := f5 (hall 5 (by decide))
     have d6 := f6 (hall 6 (by decide))
     have d4 := f4.2 (hall 4 (by decide))
     replace BEL := yk hB
     replace XR := yk d4
     replace P9 := yk hk0
     clear hall f0 f1 f2 f3 f4 f5 f6 hB hb0 hk0 d4
     simp only [setAll, List.setIfInBounds_toArray, List.set_cons_zero, List.set_cons_succ, List.set_nil, Nat.reduceAdd, d5, d6]
     go_wp2
     refine bodyPost_ret (results_list (rs := [.cell 4 27, .tmp 5, .tmp 6]) rfl (by simp) (Vals.box any_dyad info_dyad (g := w.heap.size) rfl XR.out rfl (.tmp (.tmp .nil)))) rfl ?_
     rw [HEE.out, HOO.out]
     obtain ⟨q1, q2⟩ := PT.d P9.out
     exact ⟨_, by rw [q2]; rfl, q1, BEL.out.1⟩
/-- The case of a point's angle. -/
def angF (f : Nat) (y x : Int) : Option (Int × Int) :=
 if y = 0 ∧ 0 < x then some (0, 0) else if f = 33 then none else if y = 0 then some (1, 0) else if x = 0 then some (sgnI y, 0 + -1)
 else if ¬ (y.natAbs : Int) = x.natAbs then none else if 0 < x then some (sgnI y, 0 + -2) else some (3 * sgnI y, 0 + -2)
theorem sgnI_cases (y : Int) : sgnI y = 0 ∨ sgnI y = 1 ∨ sgnI y = -1 := by
 unfold sgnI; repeat' split
 all_goals first | exact .inl rfl | exact .inr (.inl rfl) | exact .inr (.inr rfl)
theorem sgnI_small (y : Int) : (sgnI y).natAbs < 2 ^ 62 := by rcases sgnI_cases y with h | h | h <;> rw [h] <;> decide
theorem sgnI_small3 (y : Int) : (3 * sgnI y).natAbs < 2 ^ 62 := by rcases sgnI_cases y with h | h | h <;> rw [h] <;> decide
theorem sgnI_wrap3 (y : Int) : wrap64 (3 * sgnI y) = 3 * sgnI y := by
 unfold wrap64
 rcases sgnI_cases y with h | h | h <;> omega
theorem cmpZ_ne (y z : Int) : (cmpZ y z != 0) = !decide (y = z) := by
 have h := cmpZ_zero y z
 rw [← h]; rfl
theorem ang_a {f : Nat} {u v : Value} {y x : Int} {w : World} (h : CDy w u y (-1074)) (h' : CDy w v x (-1074)) (hy : y.natAbs < 2 ^ 2098) (hx : x.natAbs < 2 ^ 2098) (e1 : y = 0) (e2 : 0 < x) (hT : TabAt 0 Lib.deBruijn64tab w) :
 Calls Tryz.prog 28 #[.int .u8 f, u, v] w fun en w' => ∃ v', en = .returned v' ∧ PO w' w.heap.size v' (some (0, 0)) ∧ Below w.heap.size w w' := by
 obtain ⟨b0, A, n0, c, x0, rfl⟩ := h.ex
 obtain ⟨c0, B, m0, d, y0, rfl⟩ := h'.ex
 have HT := yk hT
 have HY := yk h
 have HX := yk h'
 have OY := yk (ok_z hy)
 have OX := yk (ok_z hx)
 have OAY := yk (ok_z (z := (y.natAbs : Int)) (by rw [Int.natAbs_natCast]; exact hy))
 have OAX := yk (ok_z (z := (x.natAbs : Int)) (by rw [Int.natAbs_natCast]; exact hx))
 have hd : decide (y = 0) = true := decide_eq_true e1
 have hs : decide (0 < sgnI x) = true := by rw [sgn_pos]; exact decide_eq_true e2
 clear h h' hy hx hT e1 e2
 go_enter Tryz.func28, Tryz.ntmps28
 obtain ⟨BEL, XY, XX, XR⟩ := al3 w 3 #[.bool b0, .slice A n0 c, .int .i64 x0] 27 #[.bool c0, .slice B m0 d, .int .i64 y0] 27 #[.bool false, .slice none 0 0, .int .i64 0, .bool false] 40
 obtain ⟨q0, q0', q1, q1', q2, q2'⟩ := bc3 XY.out
 go_wp2_with fail
 clear q0 q0' q1 q1' q2 q2'
 go_at_call 27
 refine (zero_ok (HY.out.below BEL.out.1) OY.out).mono ?_
 rintro en1 w1 ⟨rfl, hb⟩
 replace BEL := yk (BEL.out.next hb)
 replace XY := yk (yb XY.out hb)
 replace XX := yk (yb XX.out hb)
 replace XR := yk (yb XR.out hb)
 clear hb
 obtain ⟨q3, q3', q4, q4', q5, q5'⟩ := bc3 XX.out
 go_wp2_with fail
 clear q3 q3' q4 q4' q5 q5'
 go_at_call 50
 refine (sign_ok (HX.out.below BEL.out.1) OX.out).mono ?_
 rintro en2 w2 ⟨rfl, hb⟩
 replace BEL := yk (BEL.out.next hb)
 replace XY := yk (yb XY.out hb)
 replace XX := yk (yb XX.out hb)
 replace XR := yk (yb XR.out hb)
 clear hb
 go_wp2_with fail
 have BLW := BEL
 go_at_call 32
 refine (whole_any (0) _ (by decide) (by decide) (tab_below HT.out BEL.out.1)).mono ?_
 rintro en3 w3 ⟨v3, rfl, hr, hb⟩
 replace BEL := yk (BEL.out.next hb)
 replace XY := yk (yb XY.out hb)
 replace XX := yk (yb XX.out hb)
 replace XR := yk (yb XR.out hb)
 have P1 := yk hr
 obtain ⟨b3, A3, n3, c3, x3, rfl⟩ := hr.ex5
 clear hr hb
 go_wp2_with (((with_reducible refine gate_store (p := 6) rfl ?_); go_must (refine store_box 40 6 (.tmp 15) rfl rfl rfl (g := w.heap.size + 1 + 1) (e := 40) (.agg #[.bool b3, .slice A3 n3 c3, .int .i64 x3, .bool true]) ([.bool b3, .slice A3 n3 c3, .int .i64 x3, .bool true]) rfl rfl rfl info_told ?b1 XR.out rfl ?_; (case b1 => intro q hq; simp at hq; rcases hq with rfl | rfl | rfl | rfl <;> rfl); intro wb hbx hgx; have HX := yk hbx; have HG := yk hgx; clear hbx hgx)); replace P1 := yk (P1.out.grown_box XR.out (by decide) HG.out); replace BEL := yk (BEL.out.grown HG.out (by omega)); replace XY := yk (blk_grown XY.out HG.out (by omega)); replace XX := yk (blk_grown XX.out HG.out (by omega)); replace XR := HX; clear HG)
 refine bodyPost_ret (results_told rfl _ _ (w.heap.size + 1 + 1) _ rfl XR.out rfl) rfl ?_
 exact ⟨_, rfl, P1.out.some.lower (lw BLW.out.2), BEL.out.1⟩

theorem ang_b {f : Nat} {u v : Value} {y x : Int} {w : World} (h : CDy w u y (-1074)) (h' : CDy w v x (-1074)) (hy : y.natAbs < 2 ^ 2098) (hx : x.natAbs < 2 ^ 2098) (e1 : ¬ y = 0) (e2 : f = 33) (hT : TabAt 0 Lib.deBruijn64tab w) :
 Calls Tryz.prog 28 #[.int .u8 f, u, v] w fun en w' => ∃ v', en = .returned v' ∧ PO w' w.heap.size v' (none) ∧ Below w.heap.size w w' := by
 obtain ⟨b0, A, n0, c, x0, rfl⟩ := h.ex
 obtain ⟨c0, B, m0, d, y0, rfl⟩ := h'.ex
 have HT := yk hT
 have HY := yk h
 have HX := yk h'
 have OY := yk (ok_z hy)
 have OX := yk (ok_z hx)
 have OAY := yk (ok_z (z := (y.natAbs : Int)) (by rw [Int.natAbs_natCast]; exact hy))
 have OAX := yk (ok_z (z := (x.natAbs : Int)) (by rw [Int.natAbs_natCast]; exact hx))
 have hd : decide (y = 0) = false := decide_eq_false e1
 have hff : ((f : Int) == 33) = true := by simp; omega
 clear h h' hy hx hT e1 e2
 go_enter Tryz.func28, Tryz.ntmps28
 obtain ⟨BEL, XY, XX, XR⟩ := al3 w 3 #[.bool b0, .slice A n0 c, .int .i64 x0] 27 #[.bool c0, .slice B m0 d, .int .i64 y0] 27 #[.bool false, .slice none 0 0, .int .i64 0, .bool false] 40
 obtain ⟨q0, q0', q1, q1', q2, q2'⟩ := bc3 XY.out
 go_wp2_with fail
 clear q0 q0' q1 q1' q2 q2'
 go_at_call 27
 refine (zero_ok (HY.out.below BEL.out.1) OY.out).mono ?_
 rintro en1 w1 ⟨rfl, hb⟩
 replace BEL := yk (BEL.out.next hb)
 replace XY := yk (yb XY.out hb)
 replace XX := yk (yb XX.out hb)
 replace XR := yk (yb XR.out hb)
 clear hb
 go_wp2_with (((with_reducible refine gate_store (p := 6) rfl ?_); go_must (refine store_box 40 6 (.tmp 18) rfl rfl rfl (g := w.heap.size + 1 + 1) (e := 40) (.agg #[.bool false, .slice none 0 0, .int .i64 0, .bool false]) ([.bool false, .slice none 0 0, .int .i64 0, .bool false]) rfl rfl rfl info_told ?b1 XR.out rfl ?_; (case b1 => intro q hq; simp at hq; rcases hq with rfl | rfl | rfl | rfl <;> rfl); intro wb hbx hgx; have HX := yk hbx; have HG := yk hgx; clear hbx hgx)); replace BEL := yk (BEL.out.grown HG.out (by omega)); replace XY := yk (blk_grown XY.out HG.out (by omega)); replace XX := yk (blk_grown XX.out HG.out (by omega)); replace XR := HX; clear HG)
 refine bodyPost_ret (results_told rfl _ _ (w.heap.size + 1 + 1) _ rfl XR.out rfl) rfl ?_
 exact ⟨_, rfl, PO.none _ _, BEL.out.1⟩

theorem ang_c {f : Nat} {u v : Value} {y x : Int} {w : World} (h : CDy w u y (-1074)) (h' : CDy w v x (-1074)) (hy : y.natAbs < 2 ^ 2098) (hx : x.natAbs < 2 ^ 2098) (e1 : y = 0) (e3 : ¬ 0 < x) (e2 : f = 33) (hT : TabAt 0 Lib.deBruijn64tab w) :
 Calls Tryz.prog 28 #[.int .u8 f, u, v] w fun en w' => ∃ v', en = .returned v' ∧ PO w' w.heap.size v' (none) ∧ Below w.heap.size w w' := by
 obtain ⟨b0, A, n0, c, x0, rfl⟩ := h.ex
 obtain ⟨c0, B, m0, d, y0, rfl⟩ := h'.ex
 have HT := yk hT
 have HY := yk h
 have HX := yk h'
 have OY := yk (ok_z hy)
 have OX := yk (ok_z hx)
 have OAY := yk (ok_z (z := (y.natAbs : Int)) (by rw [Int.natAbs_natCast]; exact hy))
 have OAX := yk (ok_z (z := (x.natAbs : Int)) (by rw [Int.natAbs_natCast]; exact hx))
 have hd : decide (y = 0) = true := decide_eq_true e1
 have hs : decide (0 < sgnI x) = false := by rw [sgn_pos]; exact decide_eq_false e3
 have hff : ((f : Int) == 33) = true := by simp; omega
 clear h h' hy hx hT e1 e2 e3
 go_enter Tryz.func28, Tryz.ntmps28
 obtain ⟨BEL, XY, XX, XR⟩ := al3 w 3 #[.bool b0, .slice A n0 c, .int .i64 x0] 27 #[.bool c0, .slice B m0 d, .int .i64 y0] 27 #[.bool false, .slice none 0 0, .int .i64 0, .bool false] 40
 obtain ⟨q0, q0', q1, q1', q2, q2'⟩ := bc3 XY.out
 go_wp2_with fail
 clear q0 q0' q1 q1' q2 q2'
 go_at_call 27
 refine (zero_ok (HY.out.below BEL.out.1) OY.out).mono ?_
 rintro en1 w1 ⟨rfl, hb⟩
 replace BEL := yk (BEL.out.next hb)
 replace XY := yk (yb XY.out hb)
 replace XX := yk (yb XX.out hb)
 replace XR := yk (yb XR.out hb)
 clear hb
 obtain ⟨q3, q3', q4, q4', q5, q5'⟩ := bc3 XX.out
 go_wp2_with fail
 clear q3 q3' q4 q4' q5 q5'
 go_at_call 50
 refine (sign_ok (HX.out.below BEL.out.1) OX.out).mono ?_
 rintro en2 w2 ⟨rfl, hb⟩
 replace BEL := yk (BEL.out.next hb)
 replace XY := yk (yb XY.out hb)
 replace XX := yk (yb XX.out hb)
 replace XR := yk (yb XR.out hb)
 clear hb
 go_wp2_with (((with_reducible refine gate_store (p := 6) rfl ?_); go_must (refine store_box 40 6 (.tmp 18) rfl rfl rfl (g := w.heap.size + 1 + 1) (e := 40) (.agg #[.bool false, .slice none 0 0, .int .i64 0, .bool false]) ([.bool false, .slice none 0 0, .int .i64 0, .bool false]) rfl rfl rfl info_told ?b1 XR.out rfl ?_; (case b1 => intro q hq; simp at hq; rcases hq with rfl | rfl | rfl | rfl <;> rfl); intro wb hbx hgx; have HX := yk hbx; have HG := yk hgx; clear hbx hgx)); replace BEL := yk (BEL.out.grown HG.out (by omega)); replace XY := yk (blk_grown XY.out HG.out (by omega)); replace XX := yk (blk_grown XX.out HG.out (by omega)); replace XR := HX; clear HG)
 refine bodyPost_ret (results_told rfl _ _ (w.heap.size + 1 + 1) _ rfl XR.out rfl) rfl ?_
 exact ⟨_, rfl, PO.none _ _, BEL.out.1⟩

theorem ang_d {f : Nat} {u v : Value} {y x : Int} {w : World} (h : CDy w u y (-1074)) (h' : CDy w v x (-1074)) (hy : y.natAbs < 2 ^ 2098) (hx : x.natAbs < 2 ^ 2098) (e1 : y = 0) (e3 : ¬ 0 < x) (e2 : ¬ f = 33) (hT : TabAt 0 Lib.deBruijn64tab w) :
 Calls Tryz.prog 28 #[.int .u8 f, u, v] w fun en w' => ∃ v', en = .returned v' ∧ PO w' w.heap.size v' (some (1, 0)) ∧ Below w.heap.size w w' := by
 obtain ⟨b0, A, n0, c, x0, rfl⟩ := h.ex
 obtain ⟨c0, B, m0, d, y0, rfl⟩ := h'.ex
 have HT := yk hT
 have HY := yk h
 have HX := yk h'
 have OY := yk (ok_z hy)
 have OX := yk (ok_z hx)
 have OAY := yk (ok_z (z := (y.natAbs : Int)) (by rw [Int.natAbs_natCast]; exact hy))
 have OAX := yk (ok_z (z := (x.natAbs : Int)) (by rw [Int.natAbs_natCast]; exact hx))
 have hd : decide (y = 0) = true := decide_eq_true e1
 have hs : decide (0 < sgnI x) = false := by rw [sgn_pos]; exact decide_eq_false e3
 have hff : ((f : Int) == 33) = false := by simp; omega
 clear h h' hy hx hT e1 e2 e3
 go_enter Tryz.func28, Tryz.ntmps28
 obtain ⟨BEL, XY, XX, XR⟩ := al3 w 3 #[.bool b0, .slice A n0 c, .int .i64 x0] 27 #[.bool c0, .slice B m0 d, .int .i64 y0] 27 #[.bool false, .slice none 0 0, .int .i64 0, .bool false] 40
 obtain ⟨q0, q0', q1, q1', q2, q2'⟩ := bc3 XY.out
 go_wp2_with fail
 clear q0 q0' q1 q1' q2 q2'
 go_at_call 27
 refine (zero_ok (HY.out.below BEL.out.1) OY.out).mono ?_
 rintro en1 w1 ⟨rfl, hb⟩
 replace BEL := yk (BEL.out.next hb)
 replace XY := yk (yb XY.out hb)
 replace XX := yk (yb XX.out hb)
 replace XR := yk (yb XR.out hb)
 clear hb
 obtain ⟨q3, q3', q4, q4', q5, q5'⟩ := bc3 XX.out
 go_wp2_with fail
 clear q3 q3' q4 q4' q5 q5'
 go_at_call 50
 refine (sign_ok (HX.out.below BEL.out.1) OX.out).mono ?_
 rintro en2 w2 ⟨rfl, hb⟩
 replace BEL := yk (BEL.out.next hb)
 replace XY := yk (yb XY.out hb)
 replace XX := yk (yb XX.out hb)
 replace XR := yk (yb XR.out hb)
 clear hb
 obtain ⟨q6, q6', q7, q7', q8, q8'⟩ := bc3 XY.out
 go_wp2_with fail
 clear q6 q6' q7 q7' q8 q8'
 go_at_call 50
 refine (sign_ok (HY.out.below BEL.out.1) OY.out).mono ?_
 rintro en3 w3 ⟨rfl, hb⟩
 replace BEL := yk (BEL.out.next hb)
 replace XY := yk (yb XY.out hb)
 replace XX := yk (yb XX.out hb)
 replace XR := yk (yb XR.out hb)
 clear hb
 obtain ⟨q9, q9', q10, q10', q11, q11'⟩ := bc3 XY.out
 go_wp2_with fail
 clear q9 q9' q10 q10' q11 q11'
 go_at_call 27
 refine (zero_ok (HY.out.below BEL.out.1) OY.out).mono ?_
 rintro en4 w4 ⟨rfl, hb⟩
 replace BEL := yk (BEL.out.next hb)
 replace XY := yk (yb XY.out hb)
 replace XX := yk (yb XX.out hb)
 replace XR := yk (yb XR.out hb)
 clear hb
 go_wp2_with fail
 have BLW := BEL
 go_at_call 32
 refine (whole_any (1) _ (by decide) (by decide) (tab_below HT.out BEL.out.1)).mono ?_
 rintro en5 w5 ⟨v5, rfl, hr, hb⟩
 replace BEL := yk (BEL.out.next hb)
 replace XY := yk (yb XY.out hb)
 replace XX := yk (yb XX.out hb)
 replace XR := yk (yb XR.out hb)
 have P1 := yk hr
 obtain ⟨b5, A5, n5, c5, x5, rfl⟩ := hr.ex5
 clear hr hb
 go_wp2_with (((with_reducible refine gate_store (p := 6) rfl ?_); go_must (refine store_box 40 6 (.tmp 24) rfl rfl rfl (g := w.heap.size + 1 + 1) (e := 40) (.agg #[.bool b5, .slice A5 n5 c5, .int .i64 x5, .bool true]) ([.bool b5, .slice A5 n5 c5, .int .i64 x5, .bool true]) rfl rfl rfl info_told ?b1 XR.out rfl ?_; (case b1 => intro q hq; simp at hq; rcases hq with rfl | rfl | rfl | rfl <;> rfl); intro wb hbx hgx; have HX := yk hbx; have HG := yk hgx; clear hbx hgx)); replace P1 := yk (P1.out.grown_box XR.out (by decide) HG.out); replace BEL := yk (BEL.out.grown HG.out (by omega)); replace XY := yk (blk_grown XY.out HG.out (by omega)); replace XX := yk (blk_grown XX.out HG.out (by omega)); replace XR := HX; clear HG)
 refine bodyPost_ret (results_told rfl _ _ (w.heap.size + 1 + 1) _ rfl XR.out rfl) rfl ?_
 exact ⟨_, rfl, P1.out.some.lower (lw BLW.out.2), BEL.out.1⟩

theorem ang_e {f : Nat} {u v : Value} {y x : Int} {w : World} (h : CDy w u y (-1074)) (h' : CDy w v x (-1074)) (hy : y.natAbs < 2 ^ 2098) (hx : x.natAbs < 2 ^ 2098) (e1 : ¬ y = 0) (e3 : x = 0) (e2 : ¬ f = 33) (hT : TabAt 0 Lib.deBruijn64tab w) :
 Calls Tryz.prog 28 #[.int .u8 f, u, v] w fun en w' => ∃ v', en = .returned v' ∧ PO w' w.heap.size v' (some (sgnI y, 0 + -1)) ∧ Below w.heap.size w w' := by
 obtain ⟨b0, A, n0, c, x0, rfl⟩ := h.ex
 obtain ⟨c0, B, m0, d, y0, rfl⟩ := h'.ex
 have HT := yk hT
 have HY := yk h
 have HX := yk h'
 have OY := yk (ok_z hy)
 have OX := yk (ok_z hx)
 have OAY := yk (ok_z (z := (y.natAbs : Int)) (by rw [Int.natAbs_natCast]; exact hy))
 have OAX := yk (ok_z (z := (x.natAbs : Int)) (by rw [Int.natAbs_natCast]; exact hx))
 have hd : decide (y = 0) = false := decide_eq_false e1
 have hdx : decide (x = 0) = true := decide_eq_true e3
 have hff : ((f : Int) == 33) = false := by simp; omega
 clear h h' hy hx hT e1 e2 e3
 go_enter Tryz.func28, Tryz.ntmps28
 obtain ⟨BEL, XY, XX, XR⟩ := al3 w 3 #[.bool b0, .slice A n0 c, .int .i64 x0] 27 #[.bool c0, .slice B m0 d, .int .i64 y0] 27 #[.bool false, .slice none 0 0, .int .i64 0, .bool false] 40
 obtain ⟨q0, q0', q1, q1', q2, q2'⟩ := bc3 XY.out
 go_wp2_with fail
 clear q0 q0' q1 q1' q2 q2'
 go_at_call 27
 refine (zero_ok (HY.out.below BEL.out.1) OY.out).mono ?_
 rintro en1 w1 ⟨rfl, hb⟩
 replace BEL := yk (BEL.out.next hb)
 replace XY := yk (yb XY.out hb)
 replace XX := yk (yb XX.out hb)
 replace XR := yk (yb XR.out hb)
 clear hb
 obtain ⟨q3, q3', q4, q4', q5, q5'⟩ := bc3 XY.out
 go_wp2_with fail
 clear q3 q3' q4 q4' q5 q5'
 go_at_call 50
 refine (sign_ok (HY.out.below BEL.out.1) OY.out).mono ?_
 rintro en2 w2 ⟨rfl, hb⟩
 replace BEL := yk (BEL.out.next hb)
 replace XY := yk (yb XY.out hb)
 replace XX := yk (yb XX.out hb)
 replace XR := yk (yb XR.out hb)
 clear hb
 obtain ⟨q6, q6', q7, q7', q8, q8'⟩ := bc3 XY.out
 go_wp2_with fail
 clear q6 q6' q7 q7' q8 q8'
 go_at_call 27
 refine (zero_ok (HY.out.below BEL.out.1) OY.out).mono ?_
 rintro en3 w3 ⟨rfl, hb⟩
 replace BEL := yk (BEL.out.next hb)
 replace XY := yk (yb XY.out hb)
 replace XX := yk (yb XX.out hb)
 replace XR := yk (yb XR.out hb)
 clear hb
 obtain ⟨q9, q9', q10, q10', q11, q11'⟩ := bc3 XX.out
 go_wp2_with fail
 clear q9 q9' q10 q10' q11 q11'
 go_at_call 27
 refine (zero_ok (HX.out.below BEL.out.1) OX.out).mono ?_
 rintro en4 w4 ⟨rfl, hb⟩
 replace BEL := yk (BEL.out.next hb)
 replace XY := yk (yb XY.out hb)
 replace XX := yk (yb XX.out hb)
 replace XR := yk (yb XR.out hb)
 clear hb
 go_wp2_with fail
 have BLW := BEL
 go_at_call 40
 refine (part_any (sgnI y) 1 _ (sgnI_small y) (by decide) (by decide) (tab_below HT.out BEL.out.1)).mono ?_
 rintro en5 w5 ⟨v5, rfl, hr, hb⟩
 replace BEL := yk (BEL.out.next hb)
 replace XY := yk (yb XY.out hb)
 replace XX := yk (yb XX.out hb)
 replace XR := yk (yb XR.out hb)
 have P1 := yk hr
 obtain ⟨b5, A5, n5, c5, x5, rfl⟩ := hr.ex5
 clear hr hb
 go_wp2_with (((with_reducible refine gate_store (p := 6) rfl ?_); go_must (refine store_box 40 6 (.tmp 29) rfl rfl rfl (g := w.heap.size + 1 + 1) (e := 40) (.agg #[.bool b5, .slice A5 n5 c5, .int .i64 x5, .bool true]) ([.bool b5, .slice A5 n5 c5, .int .i64 x5, .bool true]) rfl rfl rfl info_told ?b1 XR.out rfl ?_; (case b1 => intro q hq; simp at hq; rcases hq with rfl | rfl | rfl | rfl <;> rfl); intro wb hbx hgx; have HX := yk hbx; have HG := yk hgx; clear hbx hgx)); replace P1 := yk (P1.out.grown_box XR.out (by decide) HG.out); replace BEL := yk (BEL.out.grown HG.out (by omega)); replace XY := yk (blk_grown XY.out HG.out (by omega)); replace XX := yk (blk_grown XX.out HG.out (by omega)); replace XR := HX; clear HG)
 refine bodyPost_ret (results_told rfl _ _ (w.heap.size + 1 + 1) _ rfl XR.out rfl) rfl ?_
 exact ⟨_, rfl, P1.out.some.lower (lw BLW.out.2), BEL.out.1⟩

theorem ang_f {f : Nat} {u v : Value} {y x : Int} {w : World} (h : CDy w u y (-1074)) (h' : CDy w v x (-1074)) (hy : y.natAbs < 2 ^ 2098) (hx : x.natAbs < 2 ^ 2098) (e1 : ¬ y = 0) (e3 : ¬ x = 0) (e2 : ¬ f = 33) (e4 : ¬ (y.natAbs : Int) = x.natAbs) (hT : TabAt 0 Lib.deBruijn64tab w) :
 Calls Tryz.prog 28 #[.int .u8 f, u, v] w fun en w' => ∃ v', en = .returned v' ∧ PO w' w.heap.size v' (none) ∧ Below w.heap.size w w' := by
 obtain ⟨b0, A, n0, c, x0, rfl⟩ := h.ex
 obtain ⟨c0, B, m0, d, y0, rfl⟩ := h'.ex
 have HT := yk hT
 have HY := yk h
 have HX := yk h'
 have OY := yk (ok_z hy)
 have OX := yk (ok_z hx)
 have OAY := yk (ok_z (z := (y.natAbs : Int)) (by rw [Int.natAbs_natCast]; exact hy))
 have OAX := yk (ok_z (z := (x.natAbs : Int)) (by rw [Int.natAbs_natCast]; exact hx))
 have hd : decide (y = 0) = false := decide_eq_false e1
 have hdx : decide (x = 0) = false := decide_eq_false e3
 have hff : ((f : Int) == 33) = false := by simp; omega
 have HCE : Aside0 ((cmpZ (y.natAbs : Int) (x.natAbs : Int) != 0) = true) := ⟨by rw [cmpZ_ne]; simp; exact e4⟩
 clear h h' hy hx hT e1 e2 e3 e4
 go_enter Tryz.func28, Tryz.ntmps28
 obtain ⟨BEL, XY, XX, XR⟩ := al3 w 3 #[.bool b0, .slice A n0 c, .int .i64 x0] 27 #[.bool c0, .slice B m0 d, .int .i64 y0] 27 #[.bool false, .slice none 0 0, .int .i64 0, .bool false] 40
 obtain ⟨q0, q0', q1, q1', q2, q2'⟩ := bc3 XY.out
 go_wp2_with fail
 clear q0 q0' q1 q1' q2 q2'
 go_at_call 27
 refine (zero_ok (HY.out.below BEL.out.1) OY.out).mono ?_
 rintro en1 w1 ⟨rfl, hb⟩
 replace BEL := yk (BEL.out.next hb)
 replace XY := yk (yb XY.out hb)
 replace XX := yk (yb XX.out hb)
 replace XR := yk (yb XR.out hb)
 clear hb
 obtain ⟨q3, q3', q4, q4', q5, q5'⟩ := bc3 XY.out
 go_wp2_with fail
 clear q3 q3' q4 q4' q5 q5'
 go_at_call 50
 refine (sign_ok (HY.out.below BEL.out.1) OY.out).mono ?_
 rintro en2 w2 ⟨rfl, hb⟩
 replace BEL := yk (BEL.out.next hb)
 replace XY := yk (yb XY.out hb)
 replace XX := yk (yb XX.out hb)
 replace XR := yk (yb XR.out hb)
 clear hb
 obtain ⟨q6, q6', q7, q7', q8, q8'⟩ := bc3 XY.out
 go_wp2_with fail
 clear q6 q6' q7 q7' q8 q8'
 go_at_call 27
 refine (zero_ok (HY.out.below BEL.out.1) OY.out).mono ?_
 rintro en3 w3 ⟨rfl, hb⟩
 replace BEL := yk (BEL.out.next hb)
 replace XY := yk (yb XY.out hb)
 replace XX := yk (yb XX.out hb)
 replace XR := yk (yb XR.out hb)
 clear hb
 obtain ⟨q9, q9', q10, q10', q11, q11'⟩ := bc3 XX.out
 go_wp2_with fail
 clear q9 q9' q10 q10' q11 q11'
 go_at_call 27
 refine (zero_ok (HX.out.below BEL.out.1) OX.out).mono ?_
 rintro en4 w4 ⟨rfl, hb⟩
 replace BEL := yk (BEL.out.next hb)
 replace XY := yk (yb XY.out hb)
 replace XX := yk (yb XX.out hb)
 replace XR := yk (yb XR.out hb)
 clear hb
 go_upto_region 10 with fail
 obtain ⟨GM, hGM⟩ : ∃ G : (Nat → Prop) → (Nat → Value) → World → Prop, G = fun L v W => BelN w 3 W ∧ W.heap[w.heap.size]? = some (.cells #[.bool b0, .slice A n0 c, .int .i64 x0] 27 (0, 0)) ∧ W.heap[w.heap.size + 1]? = some (.cells #[.bool c0, .slice B m0 d, .int .i64 y0] 27 (0, 0)) ∧ W.heap[w.heap.size + 1 + 1]? = some (.cells #[.bool false, .slice none 0 0, .int .i64 0, .bool false] 40 (0, 0)) ∧ (L 0 → (v 0) = .agg #[.bool b0, .slice A n0 c, .int .i64 x0]) ∧ (L 1 → PDy W w.heap.size (v 1) (y.natAbs : Int) (-1074)) ∧ (L 2 → (v 2) = .agg #[.bool c0, .slice B m0 d, .int .i64 y0]) ∧ (L 3 → PDy W w.heap.size (v 3) (x.natAbs : Int) (-1074)) ∧ (L 4 → (v 4) = .int .i64 (cmpZ (y.natAbs : Int) (x.natAbs : Int))) ∧ (L 5 → (v 5) = .bool true) ∧ (L 6 → (v 6) = .bool true) := ⟨_, rfl⟩
 refine wp_region_slotsV [31, 32, 33, 34, 35, 36, 30] (by kernel_rfl) (by kernel_rfl) (G := GM) ?h0M ?hstepM ?hendM
 case h0M =>
  intro v; rw [hGM]
  exact ⟨BEL.out.next (below_drew yr), blk_drew XY.out, blk_drew XX.out, blk_drew XR.out, fun h => h.elim, fun h => h.elim, fun h => h.elim, fun h => h.elim, fun h => h.elim, fun h => h.elim, fun h => h.elim⟩
 case hstepM =>
  intro k o ho v W L hGv hnk haft hcl K hK
  rw [hGM] at hGv
  obtain ⟨hB, hb0, hb1, hb2, f0, f1, f2, f3, f4, f5, f6⟩ := hGv
  rcases k with _ | _ | _ | _ | _ | _ | _ | k
  all_goals first
   | (cases ho; done)
   | (obtain rfl := (Option.some.inj ho).symm
      clear ho
      rw [if_pos (by rfl)]
      simp only [setAll, List.setIfInBounds_toArray, List.set_cons_zero, List.set_cons_succ, List.set_nil, List.getElem_toArray, List.getElem_cons_zero, List.getElem_cons_succ, Nat.reduceAdd] at haft hK ⊢)
  ·
   have cc0 := (box_cell (v := .bool b0) hb0 0 rfl).1
   have cc1 := (box_cell (v := .slice A n0 c) hb0 1 rfl).1
   have cc2 := (box_cell (v := .int .i64 x0) hb0 2 rfl).1
   have hb := yw W
   have key := hK.out (.agg #[.bool b0, .slice A n0 c, .int .i64 x0]) W (by rw [hGM]; exact ⟨hB.next hb, yb hb0 hb, yb hb1 hb, yb hb2 hb, yu, (kD f1 hb), (kV f2), (kD f3 hb), (kV f4), (kV f5), (kV f6)⟩)
   clear hb0 hb1 hb2 f0 f1 f2 f3 f4 f5 f6 hb hK
   go_simp
   simpa [upd] using key
  ·
   have d0 := f0 (haft ⟨0, .data⟩ (by simp) rfl)
   have D0 := d0
   have HALL := yk (ya hK (ya hB (ya hb0 ( ya hb1 ( ya hb2 ( ya f0 ( ya f1 ( ya f2 ( ya f3 ( ya f4 ( ya f5 ( ya f6 (True.intro)))))))))))))
   clear hK hb0 hb1 hb2 f0 f1 f2 f3 f4 f5 f6
   go_simp
   go_at_call 54
   refine (abs_ok (HY.out.below hB.1) OY.out (tab_below HT.out hB.1)).mono ?_
   rintro en w4 ⟨v1, rfl, hr, hb⟩
   obtain ⟨hK, hB, hb0, hb1, hb2, f0, f1, f2, f3, f4, f5, f6, _⟩ := HALL.out
   have key := hK.out (v1) w4 (by rw [hGM]; exact ⟨hB.next hb, yb hb0 hb, yb hb1 hb, yb hb2 hb, (kV f0), fun _ => by rw [upd_eq]; exact hr.lower (lw hB.2), (kV f2), (kD f3 hb), (kV f4), (kV f5), (kV f6)⟩)
   clear hb0 hb1 hb2 f0 f1 f2 f3 f4 f5 f6 hK HALL
   simpa [upd, D0] using key
  ·
   have cc0 := (box_cell (v := .bool c0) hb1 0 rfl).1
   have cc1 := (box_cell (v := .slice B m0 d) hb1 1 rfl).1
   have cc2 := (box_cell (v := .int .i64 y0) hb1 2 rfl).1
   have hb := yw W
   have key := hK.out (.agg #[.bool c0, .slice B m0 d, .int .i64 y0]) W (by rw [hGM]; exact ⟨hB.next hb, yb hb0 hb, yb hb1 hb, yb hb2 hb, (kV f0), (kD f1 hb), yu, (kD f3 hb), (kV f4), (kV f5), (kV f6)⟩)
   clear hb0 hb1 hb2 f0 f1 f2 f3 f4 f5 f6 hb hK
   go_simp
   simpa [upd] using key
  ·
   have d2 := f2 (haft ⟨2, .data⟩ (by simp) rfl)
   have D2 := d2
   have HALL := yk (ya hK (ya hB (ya hb0 ( ya hb1 ( ya hb2 ( ya f0 ( ya f1 ( ya f2 ( ya f3 ( ya f4 ( ya f5 ( ya f6 (True.intro)))))))))))))
   clear hK hb0 hb1 hb2 f0 f1 f2 f3 f4 f5 f6
   go_simp
   go_at_call 54
   refine (abs_ok (HX.out.below hB.1) OX.out (tab_below HT.out hB.1)).mono ?_
   rintro en w4 ⟨v1, rfl, hr, hb⟩
   obtain ⟨hK, hB, hb0, hb1, hb2, f0, f1, f2, f3, f4, f5, f6, _⟩ := HALL.out
   have key := hK.out (v1) w4 (by rw [hGM]; exact ⟨hB.next hb, yb hb0 hb, yb hb1 hb, yb hb2 hb, (kV f0), (kD f1 hb), (kV f2), fun _ => by rw [upd_eq]; exact hr.lower (lw hB.2), (kV f4), (kV f5), (kV f6)⟩)
   clear hb0 hb1 hb2 f0 f1 f2 f3 f4 f5 f6 hK HALL
   simpa [upd, D2] using key
  ·
   have d1 := f1 (haft ⟨1, .data⟩ (by simp) rfl)
   have D1 := d1
   have d3 := f3 (haft ⟨3, .data⟩ (by simp) rfl)
   have D3 := d3
   have HALL := yk (ya hK (ya hB (ya hb0 ( ya hb1 ( ya hb2 ( ya f0 ( ya f1 ( ya f2 ( ya f3 ( ya f4 ( ya f5 ( ya f6 (True.intro)))))))))))))
   clear hK hb0 hb1 hb2 f0 f1 f2 f3 f4 f5 f6
   go_simp
   go_at_call 51
   refine (cmp_ok d1.c d3.c OAY.out OAX.out (tab_below HT.out hB.1)).mono ?_
   rintro en w4 ⟨rfl, hb⟩
   obtain ⟨hK, hB, hb0, hb1, hb2, f0, f1, f2, f3, f4, f5, f6, _⟩ := HALL.out
   have key := hK.out (.int .i64 (cmpZ (y.natAbs : Int) (x.natAbs : Int))) w4 (by rw [hGM]; exact ⟨hB.next hb, yb hb0 hb, yb hb1 hb, yb hb2 hb, (kV f0), (kD f1 hb), (kV f2), (kD f3 hb), yu, (kV f5), (kV f6)⟩)
   clear hb0 hb1 hb2 f0 f1 f2 f3 f4 f5 f6 hK HALL
   simpa [upd] using key
  ·
   have d4 := f4 (haft ⟨4, .data⟩ (by simp) rfl)
   have D4 := d4
   have hce := HCE.out
   have hb := yw W
   have key := hK.out (.bool true) W (by rw [hGM]; exact ⟨hB.next hb, yb hb0 hb, yb hb1 hb, yb hb2 hb, (kV f0), (kD f1 hb), (kV f2), (kD f3 hb), (kV f4), yu, (kV f6)⟩)
   clear hb0 hb1 hb2 f0 f1 f2 f3 f4 f5 f6 hb hK
   go_simp
   simpa [upd, D4] using key
  ·
   have d5 := f5 (haft ⟨5, .data⟩ (by simp) rfl)
   have D5 := d5
   have hb := yw W
   have key := hK.out (.bool true) W (by rw [hGM]; exact ⟨hB.next hb, yb hb0 hb, yb hb1 hb, yb hb2 hb, (kV f0), (kD f1 hb), (kV f2), (kD f3 hb), (kV f4), (kV f5), yu⟩)
   clear hb0 hb1 hb2 f0 f1 f2 f3 f4 f5 f6 hb hK
   go_simp
   simpa [upd, D5] using key
 case hendM =>
  intro v W L0 hall hGv
  rw [hGM] at hGv
  obtain ⟨hB, hb0, hb1, hb2, f0, f1, f2, f3, f4, f5, f6⟩ := hGv
  have d6 := f6 (hall 6 (by decide))
  replace BEL := yk hB
  replace XY := yk hb0
  replace XX := yk hb1
  replace XR := yk hb2
  clear hall hB hb0 hb1 hb2 f0 f1 f2 f3 f4 f5 f6
  simp only [setAll, List.setIfInBounds_toArray, List.set_cons_zero, List.set_cons_succ, Nat.reduceAdd, d6]
  clear d6
  go_wp2_with (((with_reducible refine gate_store (p := 6) rfl ?_); go_must (refine store_box 40 6 (.tmp 37) rfl rfl rfl (g := w.heap.size + 1 + 1) (e := 40) (.agg #[.bool false, .slice none 0 0, .int .i64 0, .bool false]) ([.bool false, .slice none 0 0, .int .i64 0, .bool false]) rfl rfl rfl info_told ?b1 XR.out rfl ?_; (case b1 => intro q hq; simp at hq; rcases hq with rfl | rfl | rfl | rfl <;> rfl); intro wb hbx hgx; have HX := yk hbx; have HG := yk hgx; clear hbx hgx)); replace BEL := yk (BEL.out.grown HG.out (by omega)); replace XY := yk (blk_grown XY.out HG.out (by omega)); replace XX := yk (blk_grown XX.out HG.out (by omega)); replace XR := HX; clear HG)
  refine bodyPost_ret (results_told rfl _ _ (w.heap.size + 1 + 1) _ rfl XR.out rfl) rfl ?_
  exact ⟨_, rfl, PO.none _ _, BEL.out.1⟩

theorem ang_g {f : Nat} {u v : Value} {y x : Int} {w : World} (h : CDy w u y (-1074)) (h' : CDy w v x (-1074)) (hy : y.natAbs < 2 ^ 2098) (hx : x.natAbs < 2 ^ 2098) (e1 : ¬ y = 0) (e3 : ¬ x = 0) (e2 : ¬ f = 33) (e4 : (y.natAbs : Int) = x.natAbs) (e5 : 0 < x) (hT : TabAt 0 Lib.deBruijn64tab w) :
 Calls Tryz.prog 28 #[.int .u8 f, u, v] w fun en w' => ∃ v', en = .returned v' ∧ PO w' w.heap.size v' (some (sgnI y, 0 + -2)) ∧ Below w.heap.size w w' := by
 obtain ⟨b0, A, n0, c, x0, rfl⟩ := h.ex
 obtain ⟨c0, B, m0, d, y0, rfl⟩ := h'.ex
 have HT := yk hT
 have HY := yk h
 have HX := yk h'
 have OY := yk (ok_z hy)
 have OX := yk (ok_z hx)
 have OAY := yk (ok_z (z := (y.natAbs : Int)) (by rw [Int.natAbs_natCast]; exact hy))
 have OAX := yk (ok_z (z := (x.natAbs : Int)) (by rw [Int.natAbs_natCast]; exact hx))
 have hd : decide (y = 0) = false := decide_eq_false e1
 have hdx : decide (x = 0) = false := decide_eq_false e3
 have hff : ((f : Int) == 33) = false := by simp; omega
 have HCE : Aside0 ((cmpZ (y.natAbs : Int) (x.natAbs : Int) != 0) = false) := ⟨by rw [cmpZ_ne]; simp; exact e4⟩
 have hs : decide (0 < sgnI x) = true := by rw [sgn_pos]; exact decide_eq_true e5
 clear h h' hy hx hT e1 e2 e3 e4 e5
 go_enter Tryz.func28, Tryz.ntmps28
 obtain ⟨BEL, XY, XX, XR⟩ := al3 w 3 #[.bool b0, .slice A n0 c, .int .i64 x0] 27 #[.bool c0, .slice B m0 d, .int .i64 y0] 27 #[.bool false, .slice none 0 0, .int .i64 0, .bool false] 40
 obtain ⟨q0, q0', q1, q1', q2, q2'⟩ := bc3 XY.out
 go_wp2_with fail
 clear q0 q0' q1 q1' q2 q2'
 go_at_call 27
 refine (zero_ok (HY.out.below BEL.out.1) OY.out).mono ?_
 rintro en1 w1 ⟨rfl, hb⟩
 replace BEL := yk (BEL.out.next hb)
 replace XY := yk (yb XY.out hb)
 replace XX := yk (yb XX.out hb)
 replace XR := yk (yb XR.out hb)
 clear hb
 obtain ⟨q3, q3', q4, q4', q5, q5'⟩ := bc3 XY.out
 go_wp2_with fail
 clear q3 q3' q4 q4' q5 q5'
 go_at_call 50
 refine (sign_ok (HY.out.below BEL.out.1) OY.out).mono ?_
 rintro en2 w2 ⟨rfl, hb⟩
 replace BEL := yk (BEL.out.next hb)
 replace XY := yk (yb XY.out hb)
 replace XX := yk (yb XX.out hb)
 replace XR := yk (yb XR.out hb)
 clear hb
 obtain ⟨q6, q6', q7, q7', q8, q8'⟩ := bc3 XY.out
 go_wp2_with fail
 clear q6 q6' q7 q7' q8 q8'
 go_at_call 27
 refine (zero_ok (HY.out.below BEL.out.1) OY.out).mono ?_
 rintro en3 w3 ⟨rfl, hb⟩
 replace BEL := yk (BEL.out.next hb)
 replace XY := yk (yb XY.out hb)
 replace XX := yk (yb XX.out hb)
 replace XR := yk (yb XR.out hb)
 clear hb
 obtain ⟨q9, q9', q10, q10', q11, q11'⟩ := bc3 XX.out
 go_wp2_with fail
 clear q9 q9' q10 q10' q11 q11'
 go_at_call 27
 refine (zero_ok (HX.out.below BEL.out.1) OX.out).mono ?_
 rintro en4 w4 ⟨rfl, hb⟩
 replace BEL := yk (BEL.out.next hb)
 replace XY := yk (yb XY.out hb)
 replace XX := yk (yb XX.out hb)
 replace XR := yk (yb XR.out hb)
 clear hb
 go_upto_region 10 with fail
 obtain ⟨GM, hGM⟩ : ∃ G : (Nat → Prop) → (Nat → Value) → World → Prop, G = fun L v W => BelN w 3 W ∧ W.heap[w.heap.size]? = some (.cells #[.bool b0, .slice A n0 c, .int .i64 x0] 27 (0, 0)) ∧ W.heap[w.heap.size + 1]? = some (.cells #[.bool c0, .slice B m0 d, .int .i64 y0] 27 (0, 0)) ∧ W.heap[w.heap.size + 1 + 1]? = some (.cells #[.bool false, .slice none 0 0, .int .i64 0, .bool false] 40 (0, 0)) ∧ (L 0 → (v 0) = .agg #[.bool b0, .slice A n0 c, .int .i64 x0]) ∧ (L 1 → PDy W w.heap.size (v 1) (y.natAbs : Int) (-1074)) ∧ (L 2 → (v 2) = .agg #[.bool c0, .slice B m0 d, .int .i64 y0]) ∧ (L 3 → PDy W w.heap.size (v 3) (x.natAbs : Int) (-1074)) ∧ (L 4 → (v 4) = .int .i64 (cmpZ (y.natAbs : Int) (x.natAbs : Int))) ∧ (L 5 → (v 5) = .bool false) ∧ (L 6 → (v 6) = .bool false) := ⟨_, rfl⟩
 refine wp_region_slotsV [31, 32, 33, 34, 35, 36, 30] (by kernel_rfl) (by kernel_rfl) (G := GM) ?h0M ?hstepM ?hendM
 case h0M =>
  intro v; rw [hGM]
  exact ⟨BEL.out.next (below_drew yr), blk_drew XY.out, blk_drew XX.out, blk_drew XR.out, fun h => h.elim, fun h => h.elim, fun h => h.elim, fun h => h.elim, fun h => h.elim, fun h => h.elim, fun h => h.elim⟩
 case hstepM =>
  intro k o ho v W L hGv hnk haft hcl K hK
  rw [hGM] at hGv
  obtain ⟨hB, hb0, hb1, hb2, f0, f1, f2, f3, f4, f5, f6⟩ := hGv
  rcases k with _ | _ | _ | _ | _ | _ | _ | k
  all_goals first
   | (cases ho; done)
   | (obtain rfl := (Option.some.inj ho).symm
      clear ho
      rw [if_pos (by rfl)]
      simp only [setAll, List.setIfInBounds_toArray, List.set_cons_zero, List.set_cons_succ, List.set_nil, List.getElem_toArray, List.getElem_cons_zero, List.getElem_cons_succ, Nat.reduceAdd] at haft hK ⊢)
  ·
   have cc0 := (box_cell (v := .bool b0) hb0 0 rfl).1
   have cc1 := (box_cell (v := .slice A n0 c) hb0 1 rfl).1
   have cc2 := (box_cell (v := .int .i64 x0) hb0 2 rfl).1
   have hb := yw W
   have key := hK.out (.agg #[.bool b0, .slice A n0 c, .int .i64 x0]) W (by rw [hGM]; exact ⟨hB.next hb, yb hb0 hb, yb hb1 hb, yb hb2 hb, yu, (kD f1 hb), (kV f2), (kD f3 hb), (kV f4), (kV f5), (kV f6)⟩)
   clear hb0 hb1 hb2 f0 f1 f2 f3 f4 f5 f6 hb hK
   go_simp
   simpa [upd] using key
  ·
   have d0 := f0 (haft ⟨0, .data⟩ (by simp) rfl)
   have D0 := d0
   have HALL := yk (ya hK (ya hB (ya hb0 ( ya hb1 ( ya hb2 ( ya f0 ( ya f1 ( ya f2 ( ya f3 ( ya f4 ( ya f5 ( ya f6 (True.intro)))))))))))))
   clear hK hb0 hb1 hb2 f0 f1 f2 f3 f4 f5 f6
   go_simp
   go_at_call 54
   refine (abs_ok (HY.out.below hB.1) OY.out (tab_below HT.out hB.1)).mono ?_
   rintro en w4 ⟨v1, rfl, hr, hb⟩
   obtain ⟨hK, hB, hb0, hb1, hb2, f0, f1, f2, f3, f4, f5, f6, _⟩ := HALL.out
   have key := hK.out (v1) w4 (by rw [hGM]; exact ⟨hB.next hb, yb hb0 hb, yb hb1 hb, yb hb2 hb, (kV f0), fun _ => by rw [upd_eq]; exact hr.lower (lw hB.2), (kV f2), (kD f3 hb), (kV f4), (kV f5), (kV f6)⟩)
   clear hb0 hb1 hb2 f0 f1 f2 f3 f4 f5 f6 hK HALL
   simpa [upd, D0] using key
  ·
   have cc0 := (box_cell (v := .bool c0) hb1 0 rfl).1
   have cc1 := (box_cell (v := .slice B m0 d) hb1 1 rfl).1
   have cc2 := (box_cell (v := .int .i64 y0) hb1 2 rfl).1
   have hb := yw W
   have key := hK.out (.agg #[.bool c0, .slice B m0 d, .int .i64 y0]) W (by rw [hGM]; exact ⟨hB.next hb, yb hb0 hb, yb hb1 hb, yb hb2 hb, (kV f0), (kD f1 hb), yu, (kD f3 hb), (kV f4), (kV f5), (kV f6)⟩)
   clear hb0 hb1 hb2 f0 f1 f2 f3 f4 f5 f6 hb hK
   go_simp
   simpa [upd] using key
  ·
   have d2 := f2 (haft ⟨2, .data⟩ (by simp) rfl)
   have D2 := d2
   have HALL := yk (ya hK (ya hB (ya hb0 ( ya hb1 ( ya hb2 ( ya f0 ( ya f1 ( ya f2 ( ya f3 ( ya f4 ( ya f5 ( ya f6 (True.intro)))))))))))))
   clear hK hb0 hb1 hb2 f0 f1 f2 f3 f4 f5 f6
   go_simp
   go_at_call 54
   refine (abs_ok (HX.out.below hB.1) OX.out (tab_below HT.out hB.1)).mono ?_
   rintro en w4 ⟨v1, rfl, hr, hb⟩
   obtain ⟨hK, hB, hb0, hb1, hb2, f0, f1, f2, f3, f4, f5, f6, _⟩ := HALL.out
   have key := hK.out (v1) w4 (by rw [hGM]; exact ⟨hB.next hb, yb hb0 hb, yb hb1 hb, yb hb2 hb, (kV f0), (kD f1 hb), (kV f2), fun _ => by rw [upd_eq]; exact hr.lower (lw hB.2), (kV f4), (kV f5), (kV f6)⟩)
   clear hb0 hb1 hb2 f0 f1 f2 f3 f4 f5 f6 hK HALL
   simpa [upd, D2] using key
  ·
   have d1 := f1 (haft ⟨1, .data⟩ (by simp) rfl)
   have D1 := d1
   have d3 := f3 (haft ⟨3, .data⟩ (by simp) rfl)
   have D3 := d3
   have HALL := yk (ya hK (ya hB (ya hb0 ( ya hb1 ( ya hb2 ( ya f0 ( ya f1 ( ya f2 ( ya f3 ( ya f4 ( ya f5 ( ya f6 (True.intro)))))))))))))
   clear hK hb0 hb1 hb2 f0 f1 f2 f3 f4 f5 f6
   go_simp
   go_at_call 51
   refine (cmp_ok d1.c d3.c OAY.out OAX.out (tab_below HT.out hB.1)).mono ?_
   rintro en w4 ⟨rfl, hb⟩
   obtain ⟨hK, hB, hb0, hb1, hb2, f0, f1, f2, f3, f4, f5, f6, _⟩ := HALL.out
   have key := hK.out (.int .i64 (cmpZ (y.natAbs : Int) (x.natAbs : Int))) w4 (by rw [hGM]; exact ⟨hB.next hb, yb hb0 hb, yb hb1 hb, yb hb2 hb, (kV f0), (kD f1 hb), (kV f2), (kD f3 hb), yu, (kV f5), (kV f6)⟩)
   clear hb0 hb1 hb2 f0 f1 f2 f3 f4 f5 f6 hK HALL
   simpa [upd] using key
  ·
   have d4 := f4 (haft ⟨4, .data⟩ (by simp) rfl)
   have D4 := d4
   have hce := HCE.out
   have hb := yw W
   have key := hK.out (.bool false) W (by rw [hGM]; exact ⟨hB.next hb, yb hb0 hb, yb hb1 hb, yb hb2 hb, (kV f0), (kD f1 hb), (kV f2), (kD f3 hb), (kV f4), yu, (kV f6)⟩)
   clear hb0 hb1 hb2 f0 f1 f2 f3 f4 f5 f6 hb hK
   go_simp
   simpa [upd, D4] using key
  ·
   have d5 := f5 (haft ⟨5, .data⟩ (by simp) rfl)
   have D5 := d5
   have hb := yw W
   have key := hK.out (.bool false) W (by rw [hGM]; exact ⟨hB.next hb, yb hb0 hb, yb hb1 hb, yb hb2 hb, (kV f0), (kD f1 hb), (kV f2), (kD f3 hb), (kV f4), (kV f5), yu⟩)
   clear hb0 hb1 hb2 f0 f1 f2 f3 f4 f5 f6 hb hK
   go_simp
   simpa [upd, D5] using key
 case hendM =>
  intro v W L0 hall hGv
  rw [hGM] at hGv
  obtain ⟨hB, hb0, hb1, hb2, f0, f1, f2, f3, f4, f5, f6⟩ := hGv
  have d6 := f6 (hall 6 (by decide))
  replace BEL := yk hB
  replace XY := yk hb0
  replace XX := yk hb1
  replace XR := yk hb2
  clear hall hB hb0 hb1 hb2 f0 f1 f2 f3 f4 f5 f6
  simp only [setAll, List.setIfInBounds_toArray, List.set_cons_zero, List.set_cons_succ, Nat.reduceAdd, d6]
  clear d6
  obtain ⟨q12, q12', q13, q13', q14, q14'⟩ := bc3 XX.out
  go_wp2_with fail
  clear q12 q12' q13 q13' q14 q14'
  go_at_call 50
  refine (sign_ok (HX.out.below BEL.out.1) OX.out).mono ?_
  rintro en21 w21 ⟨rfl, hb⟩
  replace BEL := yk (BEL.out.next hb)
  replace XY := yk (yb XY.out hb)
  replace XX := yk (yb XX.out hb)
  replace XR := yk (yb XR.out hb)
  clear hb
  go_wp2_with fail
  have BLW := BEL
  go_at_call 40
  refine (part_any (sgnI y) 2 _ (sgnI_small y) (by decide) (by decide) (tab_below HT.out BEL.out.1)).mono ?_
  rintro en22 w22 ⟨v22, rfl, hr, hb⟩
  replace BEL := yk (BEL.out.next hb)
  replace XY := yk (yb XY.out hb)
  replace XX := yk (yb XX.out hb)
  replace XR := yk (yb XR.out hb)
  have P1 := yk hr
  obtain ⟨b22, A22, n22, c22, x22, rfl⟩ := hr.ex5
  clear hr hb
  go_wp2_with (((with_reducible refine gate_store (p := 6) rfl ?_); go_must (refine store_box 40 6 (.tmp 43) rfl rfl rfl (g := w.heap.size + 1 + 1) (e := 40) (.agg #[.bool b22, .slice A22 n22 c22, .int .i64 x22, .bool true]) ([.bool b22, .slice A22 n22 c22, .int .i64 x22, .bool true]) rfl rfl rfl info_told ?b1 XR.out rfl ?_; (case b1 => intro q hq; simp at hq; rcases hq with rfl | rfl | rfl | rfl <;> rfl); intro wb hbx hgx; have HX := yk hbx; have HG := yk hgx; clear hbx hgx)); replace P1 := yk (P1.out.grown_box XR.out (by decide) HG.out); replace BEL := yk (BEL.out.grown HG.out (by omega)); replace XY := yk (blk_grown XY.out HG.out (by omega)); replace XX := yk (blk_grown XX.out HG.out (by omega)); replace XR := HX; clear HG)
  refine bodyPost_ret (results_told rfl _ _ (w.heap.size + 1 + 1) _ rfl XR.out rfl) rfl ?_
  exact ⟨_, rfl, P1.out.some.lower (lw BLW.out.2), BEL.out.1⟩

theorem ang_h {f : Nat} {u v : Value} {y x : Int} {w : World} (h : CDy w u y (-1074)) (h' : CDy w v x (-1074)) (hy : y.natAbs < 2 ^ 2098) (hx : x.natAbs < 2 ^ 2098) (e1 : ¬ y = 0) (e3 : ¬ x = 0) (e2 : ¬ f = 33) (e4 : (y.natAbs : Int) = x.natAbs) (e5 : ¬ 0 < x) (hT : TabAt 0 Lib.deBruijn64tab w) :
 Calls Tryz.prog 28 #[.int .u8 f, u, v] w fun en w' => ∃ v', en = .returned v' ∧ PO w' w.heap.size v' (some (3 * sgnI y, 0 + -2)) ∧ Below w.heap.size w w' := by
 obtain ⟨b0, A, n0, c, x0, rfl⟩ := h.ex
 obtain ⟨c0, B, m0, d, y0, rfl⟩ := h'.ex
 have HT := yk hT
 have HY := yk h
 have HX := yk h'
 have OY := yk (ok_z hy)
 have OX := yk (ok_z hx)
 have OAY := yk (ok_z (z := (y.natAbs : Int)) (by rw [Int.natAbs_natCast]; exact hy))
 have OAX := yk (ok_z (z := (x.natAbs : Int)) (by rw [Int.natAbs_natCast]; exact hx))
 have hd : decide (y = 0) = false := decide_eq_false e1
 have hdx : decide (x = 0) = false := decide_eq_false e3
 have hff : ((f : Int) == 33) = false := by simp; omega
 have HCE : Aside0 ((cmpZ (y.natAbs : Int) (x.natAbs : Int) != 0) = false) := ⟨by rw [cmpZ_ne]; simp; exact e4⟩
 have hs : decide (0 < sgnI x) = false := by rw [sgn_pos]; exact decide_eq_false e5
 have h3 := sgnI_wrap3 y
 clear h h' hy hx hT e1 e2 e3 e4 e5
 go_enter Tryz.func28, Tryz.ntmps28
 obtain ⟨BEL, XY, XX, XR⟩ := al3 w 3 #[.bool b0, .slice A n0 c, .int .i64 x0] 27 #[.bool c0, .slice B m0 d, .int .i64 y0] 27 #[.bool false, .slice none 0 0, .int .i64 0, .bool false] 40
 obtain ⟨q0, q0', q1, q1', q2, q2'⟩ := bc3 XY.out
 go_wp2_with fail
 clear q0 q0' q1 q1' q2 q2'
 go_at_call 27
 refine (zero_ok (HY.out.below BEL.out.1) OY.out).mono ?_
 rintro en1 w1 ⟨rfl, hb⟩
 replace BEL := yk (BEL.out.next hb)
 replace XY := yk (yb XY.out hb)
 replace XX := yk (yb XX.out hb)
 replace XR := yk (yb XR.out hb)
 clear hb
 obtain ⟨q3, q3', q4, q4', q5, q5'⟩ := bc3 XY.out
 go_wp2_with fail
 clear q3 q3' q4 q4' q5 q5'
 go_at_call 50
 refine (sign_ok (HY.out.below BEL.out.1) OY.out).mono ?_
 rintro en2 w2 ⟨rfl, hb⟩
 replace BEL := yk (BEL.out.next hb)
 replace XY := yk (yb XY.out hb)
 replace XX := yk (yb XX.out hb)
 replace XR := yk (yb XR.out hb)
 clear hb
 obtain ⟨q6, q6', q7, q7', q8, q8'⟩ := bc3 XY.out
 go_wp2_with fail
 clear q6 q6' q7 q7' q8 q8'
 go_at_call 27
 refine (zero_ok (HY.out.below BEL.out.1) OY.out).mono ?_
 rintro en3 w3 ⟨rfl, hb⟩
 replace BEL := yk (BEL.out.next hb)
 replace XY := yk (yb XY.out hb)
 replace XX := yk (yb XX.out hb)
 replace XR := yk (yb XR.out hb)
 clear hb
 obtain ⟨q9, q9', q10, q10', q11, q11'⟩ := bc3 XX.out
 go_wp2_with fail
 clear q9 q9' q10 q10' q11 q11'
 go_at_call 27
 refine (zero_ok (HX.out.below BEL.out.1) OX.out).mono ?_
 rintro en4 w4 ⟨rfl, hb⟩
 replace BEL := yk (BEL.out.next hb)
 replace XY := yk (yb XY.out hb)
 replace XX := yk (yb XX.out hb)
 replace XR := yk (yb XR.out hb)
 clear hb
 go_upto_region 10 with fail
 obtain ⟨GM, hGM⟩ : ∃ G : (Nat → Prop) → (Nat → Value) → World → Prop, G = fun L v W => BelN w 3 W ∧ W.heap[w.heap.size]? = some (.cells #[.bool b0, .slice A n0 c, .int .i64 x0] 27 (0, 0)) ∧ W.heap[w.heap.size + 1]? = some (.cells #[.bool c0, .slice B m0 d, .int .i64 y0] 27 (0, 0)) ∧ W.heap[w.heap.size + 1 + 1]? = some (.cells #[.bool false, .slice none 0 0, .int .i64 0, .bool false] 40 (0, 0)) ∧ (L 0 → (v 0) = .agg #[.bool b0, .slice A n0 c, .int .i64 x0]) ∧ (L 1 → PDy W w.heap.size (v 1) (y.natAbs : Int) (-1074)) ∧ (L 2 → (v 2) = .agg #[.bool c0, .slice B m0 d, .int .i64 y0]) ∧ (L 3 → PDy W w.heap.size (v 3) (x.natAbs : Int) (-1074)) ∧ (L 4 → (v 4) = .int .i64 (cmpZ (y.natAbs : Int) (x.natAbs : Int))) ∧ (L 5 → (v 5) = .bool false) ∧ (L 6 → (v 6) = .bool false) := ⟨_, rfl⟩
 refine wp_region_slotsV [31, 32, 33, 34, 35, 36, 30] (by kernel_rfl) (by kernel_rfl) (G := GM) ?h0M ?hstepM ?hendM
 case h0M =>
  intro v; rw [hGM]
  exact ⟨BEL.out.next (below_drew yr), blk_drew XY.out, blk_drew XX.out, blk_drew XR.out, fun h => h.elim, fun h => h.elim, fun h => h.elim, fun h => h.elim, fun h => h.elim, fun h => h.elim, fun h => h.elim⟩
 case hstepM =>
  intro k o ho v W L hGv hnk haft hcl K hK
  rw [hGM] at hGv
  obtain ⟨hB, hb0, hb1, hb2, f0, f1, f2, f3, f4, f5, f6⟩ := hGv
  rcases k with _ | _ | _ | _ | _ | _ | _ | k
  all_goals first
   | (cases ho; done)
   | (obtain rfl := (Option.some.inj ho).symm
      clear ho
      rw [if_pos (by rfl)]
      simp only [setAll, List.setIfInBounds_toArray, List.set_cons_zero, List.set_cons_succ, List.set_nil, List.getElem_toArray, List.getElem_cons_zero, List.getElem_cons_succ, Nat.reduceAdd] at haft hK ⊢)
  ·
   have cc0 := (box_cell (v := .bool b0) hb0 0 rfl).1
   have cc1 := (box_cell (v := .slice A n0 c) hb0 1 rfl).1
   have cc2 := (box_cell (v := .int .i64 x0) hb0 2 rfl).1
   have hb := yw W
   have key := hK.out (.agg #[.bool b0, .slice A n0 c, .int .i64 x0]) W (by rw [hGM]; exact ⟨hB.next hb, yb hb0 hb, yb hb1 hb, yb hb2 hb, yu, (kD f1 hb), (kV f2), (kD f3 hb), (kV f4), (kV f5), (kV f6)⟩)
   clear hb0 hb1 hb2 f0 f1 f2 f3 f4 f5 f6 hb hK
   go_simp
   simpa [upd] using key
  ·
   have d0 := f0 (haft ⟨0, .data⟩ (by simp) rfl)
   have D0 := d0
   have HALL := yk (ya hK (ya hB (ya hb0 ( ya hb1 ( ya hb2 ( ya f0 ( ya f1 ( ya f2 ( ya f3 ( ya f4 ( ya f5 ( ya f6 (True.intro)))))))))))))
   clear hK hb0 hb1 hb2 f0 f1 f2 f3 f4 f5 f6
   go_simp
   go_at_call 54
   refine (abs_ok (HY.out.below hB.1) OY.out (tab_below HT.out hB.1)).mono ?_
   rintro en w4 ⟨v1, rfl, hr, hb⟩
   obtain ⟨hK, hB, hb0, hb1, hb2, f0, f1, f2, f3, f4, f5, f6, _⟩ := HALL.out
   have key := hK.out (v1) w4 (by rw [hGM]; exact ⟨hB.next hb, yb hb0 hb, yb hb1 hb, yb hb2 hb, (kV f0), fun _ => by rw [upd_eq]; exact hr.lower (lw hB.2), (kV f2), (kD f3 hb), (kV f4), (kV f5), (kV f6)⟩)
   clear hb0 hb1 hb2 f0 f1 f2 f3 f4 f5 f6 hK HALL
   simpa [upd, D0] using key
  ·
   have cc0 := (box_cell (v := .bool c0) hb1 0 rfl).1
   have cc1 := (box_cell (v := .slice B m0 d) hb1 1 rfl).1
   have cc2 := (box_cell (v := .int .i64 y0) hb1 2 rfl).1
   have hb := yw W
   have key := hK.out (.agg #[.bool c0, .slice B m0 d, .int .i64 y0]) W (by rw [hGM]; exact ⟨hB.next hb, yb hb0 hb, yb hb1 hb, yb hb2 hb, (kV f0), (kD f1 hb), yu, (kD f3 hb), (kV f4), (kV f5), (kV f6)⟩)
   clear hb0 hb1 hb2 f0 f1 f2 f3 f4 f5 f6 hb hK
   go_simp
   simpa [upd] using key
  ·
   have d2 := f2 (haft ⟨2, .data⟩ (by simp) rfl)
   have D2 := d2
   have HALL := yk (ya hK (ya hB (ya hb0 ( ya hb1 ( ya hb2 ( ya f0 ( ya f1 ( ya f2 ( ya f3 ( ya f4 ( ya f5 ( ya f6 (True.intro)))))))))))))
   clear hK hb0 hb1 hb2 f0 f1 f2 f3 f4 f5 f6
   go_simp
   go_at_call 54
   refine (abs_ok (HX.out.below hB.1) OX.out (tab_below HT.out hB.1)).mono ?_
   rintro en w4 ⟨v1, rfl, hr, hb⟩
   obtain ⟨hK, hB, hb0, hb1, hb2, f0, f1, f2, f3, f4, f5, f6, _⟩ := HALL.out
   have key := hK.out (v1) w4 (by rw [hGM]; exact ⟨hB.next hb, yb hb0 hb, yb hb1 hb, yb hb2 hb, (kV f0), (kD f1 hb), (kV f2), fun _ => by rw [upd_eq]; exact hr.lower (lw hB.2), (kV f4), (kV f5), (kV f6)⟩)
   clear hb0 hb1 hb2 f0 f1 f2 f3 f4 f5 f6 hK HALL
   simpa [upd, D2] using key
  ·
   have d1 := f1 (haft ⟨1, .data⟩ (by simp) rfl)
   have D1 := d1
   have d3 := f3 (haft ⟨3, .data⟩ (by simp) rfl)
   have D3 := d3
   have HALL := yk (ya hK (ya hB (ya hb0 ( ya hb1 ( ya hb2 ( ya f0 ( ya f1 ( ya f2 ( ya f3 ( ya f4 ( ya f5 ( ya f6 (True.intro)))))))))))))
   clear hK hb0 hb1 hb2 f0 f1 f2 f3 f4 f5 f6
   go_simp
   go_at_call 51
   refine (cmp_ok d1.c d3.c OAY.out OAX.out (tab_below HT.out hB.1)).mono ?_
   rintro en w4 ⟨rfl, hb⟩
   obtain ⟨hK, hB, hb0, hb1, hb2, f0, f1, f2, f3, f4, f5, f6, _⟩ := HALL.out
   have key := hK.out (.int .i64 (cmpZ (y.natAbs : Int) (x.natAbs : Int))) w4 (by rw [hGM]; exact ⟨hB.next hb, yb hb0 hb, yb hb1 hb, yb hb2 hb, (kV f0), (kD f1 hb), (kV f2), (kD f3 hb), yu, (kV f5), (kV f6)⟩)
   clear hb0 hb1 hb2 f0 f1 f2 f3 f4 f5 f6 hK HALL
   simpa [upd] using key
  ·
   have d4 := f4 (haft ⟨4, .data⟩ (by simp) rfl)
   have D4 := d4
   have hce := HCE.out
   have hb := yw W
   have key := hK.out (.bool false) W (by rw [hGM]; exact ⟨hB.next hb, yb hb0 hb, yb hb1 hb, yb hb2 hb, (kV f0), (kD f1 hb), (kV f2), (kD f3 hb), (kV f4), yu, (kV f6)⟩)
   clear hb0 hb1 hb2 f0 f1 f2 f3 f4 f5 f6 hb hK
   go_simp
   simpa [upd, D4] using key
  ·
   have d5 := f5 (haft ⟨5, .data⟩ (by simp) rfl)
   have D5 := d5
   have hb := yw W
   have key := hK.out (.bool false) W (by rw [hGM]; exact ⟨hB.next hb, yb hb0 hb, yb hb1 hb, yb hb2 hb, (kV f0), (kD f1 hb), (kV f2), (kD f3 hb), (kV f4), (kV f5), yu⟩)
   clear hb0 hb1 hb2 f0 f1 f2 f3 f4 f5 f6 hb hK
   go_simp
   simpa [upd, D5] using key
 case hendM =>
  intro v W L0 hall hGv
  rw [hGM] at hGv
  obtain ⟨hB, hb0, hb1, hb2, f0, f1, f2, f3, f4, f5, f6⟩ := hGv
  have d6 := f6 (hall 6 (by decide))
  replace BEL := yk hB
  replace XY := yk hb0
  replace XX := yk hb1
  replace XR := yk hb2
  clear hall hB hb0 hb1 hb2 f0 f1 f2 f3 f4 f5 f6
  simp only [setAll, List.setIfInBounds_toArray, List.set_cons_zero, List.set_cons_succ, Nat.reduceAdd, d6]
  clear d6
  obtain ⟨q12, q12', q13, q13', q14, q14'⟩ := bc3 XX.out
  go_wp2_with fail
  clear q12 q12' q13 q13' q14 q14'
  go_at_call 50
  refine (sign_ok (HX.out.below BEL.out.1) OX.out).mono ?_
  rintro en21 w21 ⟨rfl, hb⟩
  replace BEL := yk (BEL.out.next hb)
  replace XY := yk (yb XY.out hb)
  replace XX := yk (yb XX.out hb)
  replace XR := yk (yb XR.out hb)
  clear hb
  go_wp2_with fail
  have BLW := BEL
  go_at_call 40
  refine (part_any (3 * sgnI y) 2 _ (sgnI_small3 y) (by decide) (by decide) (tab_below HT.out BEL.out.1)).mono ?_
  rintro en22 w22 ⟨v22, rfl, hr, hb⟩
  replace BEL := yk (BEL.out.next hb)
  replace XY := yk (yb XY.out hb)
  replace XX := yk (yb XX.out hb)
  replace XR := yk (yb XR.out hb)
  have P1 := yk hr
  obtain ⟨b22, A22, n22, c22, x22, rfl⟩ := hr.ex5
  clear hr hb
  go_wp2_with (((with_reducible refine gate_store (p := 6) rfl ?_); go_must (refine store_box 40 6 (.tmp 46) rfl rfl rfl (g := w.heap.size + 1 + 1) (e := 40) (.agg #[.bool b22, .slice A22 n22 c22, .int .i64 x22, .bool true]) ([.bool b22, .slice A22 n22 c22, .int .i64 x22, .bool true]) rfl rfl rfl info_told ?b1 XR.out rfl ?_; (case b1 => intro q hq; simp at hq; rcases hq with rfl | rfl | rfl | rfl <;> rfl); intro wb hbx hgx; have HX := yk hbx; have HG := yk hgx; clear hbx hgx)); replace P1 := yk (P1.out.grown_box XR.out (by decide) HG.out); replace BEL := yk (BEL.out.grown HG.out (by omega)); replace XY := yk (blk_grown XY.out HG.out (by omega)); replace XX := yk (blk_grown XX.out HG.out (by omega)); replace XR := HX; clear HG)
  refine bodyPost_ret (results_told rfl _ _ (w.heap.size + 1 + 1) _ rfl XR.out rfl) rfl ?_
  exact ⟨_, rfl, P1.out.some.lower (lw BLW.out.2), BEL.out.1⟩

theorem angle_any {f : Nat} {u v : Value} {y x : Int} {w : World} (h : CDy w u y (-1074)) (h' : CDy w v x (-1074)) (hy : y.natAbs < 2 ^ 2098) (hx : x.natAbs < 2 ^ 2098) (hT : TabAt 0 Lib.deBruijn64tab w) :
 Calls Tryz.prog 28 #[.int .u8 f, u, v] w fun en w' => ∃ v', en = .returned v' ∧ PO w' w.heap.size v' (angF f y x) ∧ Below w.heap.size w w' := by
 unfold angF
 by_cases e1 : y = 0
 · by_cases e2 : 0 < x
   · rw [if_pos ⟨e1, e2⟩]; exact ang_a h h' hy hx e1 e2 hT
   · rw [if_neg (fun h => e2 h.2)]
     by_cases e3 : f = 33
     · rw [if_pos e3]; exact ang_c h h' hy hx e1 e2 e3 hT
     · rw [if_neg e3, if_pos e1]; exact ang_d h h' hy hx e1 e2 e3 hT
 · rw [if_neg (fun h => e1 h.1)]
   by_cases e3 : f = 33
   · rw [if_pos e3]; exact ang_b h h' hy hx e1 e3 hT
   · rw [if_neg e3, if_neg e1]
     by_cases e4 : x = 0
     · rw [if_pos e4]; exact ang_e h h' hy hx e1 e4 e3 hT
     · rw [if_neg e4]
       by_cases e5 : (y.natAbs : Int) = x.natAbs
       · rw [if_neg (fun h => h e5)]
         by_cases e6 : 0 < x
         · rw [if_pos e6]; exact ang_g h h' hy hx e1 e4 e3 e5 e6 hT
         · rw [if_neg e6]; exact ang_h h h' hy hx e1 e4 e3 e5 e6 hT
       · rw [if_pos e5]; exact ang_f h h' hy hx e1 e4 e3 e5 hT

def is2F (f : Nat) : Bool := decide (f = 33) || decide (f = 34)
theorem is2_one (f : Nat) (hf : f < 256) (w : World) :
 Calls Tryz.prog 11 #[.int .u8 f] w fun en w' => en = .returned (.bool (is2F f)) ∧ Below w.heap.size w w' := by
 have hb0 := yk (Below.refl w.heap.size w)
 unfold is2F
 by_cases h1 : f = 33
 · rw [decide_eq_true h1]
   have d1 : ((f : Int) == 33) = true := by simp; omega
   go_enter Tryz.func11, Tryz.ntmps11
   go_wp2
   go_ret
   exact ⟨rfl, hb0.out⟩
 · rw [decide_eq_false h1]
   have d1 : ((f : Int) == 33) = false := by simp; omega
   obtain ⟨q, hq⟩ : ∃ q, decide (f = 34) = q := ⟨_, rfl⟩
   have d2 : ((f : Int) == 34) = q := by
    rw [← hq]
    by_cases h2 : f = 34
    · subst h2; rfl
    · rw [decide_eq_false h2]; simp; omega
   rw [hq]
   clear h1 hq
   go_enter Tryz.func11, Tryz.ntmps11
   go_wp2
   go_ret
   exact ⟨rfl, hb0.out⟩

def bad2 (y x : Nat) : Bool := !finB y || !finB x || (decide (fromV y = 0) && decide (fromV x = 0))
def exE2 (f y x : Nat) : Int := if is2F f = true then (if bad2 y x = true then 5 else 0) else 2
def exO2 (f y x : Nat) : Option (Int × Int) := if is2F f = true ∧ bad2 y x = false then angF f (fromV y) (fromV x) else none
theorem exact2_any (f y x : Nat) (hf : f < 256) (hy : y < 18446744073709551616) (hx : x < 18446744073709551616) (w : World) (hT : TabAt 0 Lib.deBruijn64tab w) :
 Calls Tryz.prog 15 #[.int .u8 f, .int .u64 (y : Int), .int .u64 (x : Int)] w fun en w' => ∃ v', en = .returned (.tuple #[v', .bool (exO2 f y x).isSome, .int .i64 (exE2 f y x)]) ∧ PDy w' w.heap.size v' ((exO2 f y x).getD (0, 0)).1 ((exO2 f y x).getD (0, 0)).2 ∧ Below w.heap.size w w' := by
 have HT := yk hT
 have HF := yk hf
 have QFy := yk (fun (W : World) (ht : TabAt 0 Lib.deBruijn64tab W) => from_one y hy W ht)
 have QFx := yk (fun (W : World) (ht : TabAt 0 Lib.deBruijn64tab W) => from_one x hx W ht)
 have QIs := yk (fun (W : World) => is2_one f hf W)
 have HE := yk (show exE2 f y x = if is2F f = true then (if (!finB y || !finB x || (decide (fromV y = 0) && decide (fromV x = 0))) = true then 5 else 0) else 2 from rfl)
 have HO := yk (show exO2 f y x = if is2F f = true ∧ (!finB y || !finB x || (decide (fromV y = 0) && decide (fromV x = 0))) = false then angF f (fromV y) (fromV x) else none from rfl)
 have HZY := yk (fromV_small y)
 have HZX := yk (fromV_small x)
 obtain ⟨eo, heo⟩ : ∃ o, o = exO2 f y x := ⟨_, rfl⟩
 obtain ⟨ee, hee⟩ : ∃ o, o = exE2 f y x := ⟨_, rfl⟩
 rw [← heo] at HO ⊢
 rw [← hee] at HE ⊢
 clear hT hf hx hy heo hee
 generalize fromV y = p at *
 generalize fromV x = q at *
 generalize is2F f = isf at *
 generalize finB x = finx at *
 generalize finB y = finy at *
 go_enter Tryz.func15, Tryz.ntmps15
 obtain ⟨BEL, XR⟩ := al1 w 1 #[.bool false, .slice none 0 0, .int .i64 0] 27
 go_wp2_with fail
 have BLY := BEL
 go_at_call 17
 refine (QFy.out _ (tab_below HT.out BEL.out.1)).mono ?_
 rintro en1 w1 ⟨v1, rfl, hr, hb⟩
 replace BEL := yk (BEL.out.next hb)
 replace XR := yk (yb XR.out hb)
 have PY := yk hr
 obtain ⟨b1, A1, n1, c1, x1, rfl⟩ := hr.ex
 clear hr hb
 have BELo := BEL
 go_wp2_with (replace BEL := yk ((BEL.out.alloc (.cells #[.bool false, .slice none 0 0, .int .i64 0] 27)).less (j := 1) (by omega)); have HN := yk (blk_new w1 (.cells #[.bool false, .slice none 0 0, .int .i64 0] 27)); have L_XR := lt_blk XR.out; replace XR := yk (blk_alloc XR.out (.cells #[.bool false, .slice none 0 0, .int .i64 0] 27)); replace PY := yk (PY.out.below (below_alloc yr (.cells #[.bool false, .slice none 0 0, .int .i64 0] 27))); ((with_reducible refine gate_store (p := 9) rfl ?_); go_must (refine sdy 9 (.tmp 17) rfl rfl rfl rfl rfl HN.out rfl ?_; intro wb HX HG)); replace PY := yk (PY.out.grown_box HN.out (by decide) HG.out); have LB_XY := BELo.out.2; replace BEL := yk (BEL.out.grown HG.out (Nat.le_trans (Nat.le_add_right _ _) LB_XY)); replace XR := yk (blk_grown XR.out HG.out (Nat.ne_of_lt L_XR)); have NE_XR_XY := yk (Nat.ne_of_lt L_XR); clear L_XR; have LL_XY := yk LB_XY; clear LB_XY; have XY := HX; clear HG HN HX)
 have BLX := BEL
 go_at_call 17
 refine (QFx.out _ (tab_below HT.out BEL.out.1)).mono ?_
 rintro en2 w2 ⟨v2, rfl, hr, hb⟩
 replace BEL := yk (BEL.out.next hb)
 replace XR := yk (yb XR.out hb)
 replace XY := yk (yb XY.out hb)
 replace PY := yk (PY.out.below hb)
 have PX := yk hr
 obtain ⟨b2, A2, n2, c2, x2, rfl⟩ := hr.ex
 clear hr hb
 have BELo := BEL
 go_wp2_with (replace BEL := yk ((BEL.out.alloc (.cells #[.bool false, .slice none 0 0, .int .i64 0] 27)).less (j := 1) (by omega)); have HN := yk (blk_new w2 (.cells #[.bool false, .slice none 0 0, .int .i64 0] 27)); have L_XR := lt_blk XR.out; replace XR := yk (blk_alloc XR.out (.cells #[.bool false, .slice none 0 0, .int .i64 0] 27)); have L_XY := lt_blk XY.out; replace XY := yk (blk_alloc XY.out (.cells #[.bool false, .slice none 0 0, .int .i64 0] 27)); replace PY := yk (PY.out.below (below_alloc yr (.cells #[.bool false, .slice none 0 0, .int .i64 0] 27))); replace PX := yk (PX.out.below (below_alloc yr (.cells #[.bool false, .slice none 0 0, .int .i64 0] 27))); ((with_reducible refine gate_store (p := 11) rfl ?_); go_must (refine sdy 11 (.tmp 22) rfl rfl rfl rfl rfl HN.out rfl ?_; intro wb HX HG)); replace PY := yk (PY.out.grown_box HN.out (by decide) HG.out); replace PX := yk (PX.out.grown_box HN.out (by decide) HG.out); have LB_XX := BELo.out.2; replace BEL := yk (BEL.out.grown HG.out (Nat.le_trans (Nat.le_add_right _ _) LB_XX)); replace XR := yk (blk_grown XR.out HG.out (Nat.ne_of_lt L_XR)); replace XY := yk (blk_grown XY.out HG.out (Nat.ne_of_lt L_XY)); have NE_XR_XX := yk (Nat.ne_of_lt L_XR); have NE_XY_XX := yk (Nat.ne_of_lt L_XY); clear L_XR; clear L_XY; have LL_XX := yk LB_XX; clear LB_XX; have XX := HX; clear HG HN HX)
 go_at_call 11
 refine (QIs.out _).mono ?_
 rintro en3 w3 ⟨rfl, hb⟩
 replace BEL := yk (BEL.out.next hb)
 replace XR := yk (yb XR.out hb)
 replace XY := yk (yb XY.out hb)
 replace XX := yk (yb XX.out hb)
 replace PY := yk (PY.out.below hb)
 replace PX := yk (PX.out.below hb)
 clear hb
 cases isf
 case false =>
  have HEE : Aside0 (ee = 2) := ⟨by rw [HE.out]; rfl⟩
  have HOO : Aside0 (eo = none) := ⟨by rw [HO.out, if_neg (fun h => by cases h.1)]⟩
  go_wp2_with (((with_reducible refine gate_store (p := 6) rfl ?_); go_must (refine sdy 6 (.tmp 28) rfl rfl rfl rfl rfl XR.out rfl ?_; intro wb HX HG)); replace PY := yk (PY.out.grown_box XR.out (by decide) HG.out); replace PX := yk (PX.out.grown_box XR.out (by decide) HG.out); replace BEL := yk (BEL.out.grown HG.out (by omega)); replace XY := yk (blk_grown XY.out HG.out (Ne.symm NE_XR_XY.out)); replace XX := yk (blk_grown XX.out HG.out (Ne.symm NE_XR_XX.out)); replace XR := HX; clear HG)
  refine bodyPost_ret (results_list (rs := [.cell 6 27, .tmp 7, .tmp 8]) rfl (by simp) (Vals.box any_dyad info_dyad (g := w.heap.size) rfl XR.out rfl (.tmp (.tmp .nil)))) rfl ?_
  rw [HEE.out, HOO.out]
  exact ⟨_, rfl, PDy.zero _ _ _, BEL.out.1⟩
 case true =>
  have he0 : errB true = 0 := rfl
  have he5 : errB false = 5 := rfl
  cases finy
  case false =>
   have HEE : Aside0 (ee = 5) := ⟨by rw [HE.out]; rfl⟩
   have HOO : Aside0 (eo = none) := ⟨by rw [HO.out, if_neg (fun h => by have := h.2; cases this)]⟩
   go_wp2_with (((with_reducible refine gate_store (p := 6) rfl ?_); go_must (refine sdy 6 (.tmp 44) rfl rfl rfl rfl rfl XR.out rfl ?_; intro wb HX HG)); replace PY := yk (PY.out.grown_box XR.out (by decide) HG.out); replace PX := yk (PX.out.grown_box XR.out (by decide) HG.out); replace BEL := yk (BEL.out.grown HG.out (by omega)); replace XY := yk (blk_grown XY.out HG.out (Ne.symm NE_XR_XY.out)); replace XX := yk (blk_grown XX.out HG.out (Ne.symm NE_XR_XX.out)); replace XR := HX; clear HG)
   refine bodyPost_ret (results_list (rs := [.cell 6 27, .tmp 7, .tmp 8]) rfl (by simp) (Vals.box any_dyad info_dyad (g := w.heap.size) rfl XR.out rfl (.tmp (.tmp .nil)))) rfl ?_
   rw [HEE.out, HOO.out]
   exact ⟨_, rfl, PDy.zero _ _ _, BEL.out.1⟩
  case true =>
   cases finx
   case false =>
    have HEE : Aside0 (ee = 5) := ⟨by rw [HE.out]; rfl⟩
    have HOO : Aside0 (eo = none) := ⟨by rw [HO.out, if_neg (fun h => by have := h.2; cases this)]⟩
    go_wp2_with (((with_reducible refine gate_store (p := 6) rfl ?_); go_must (refine sdy 6 (.tmp 44) rfl rfl rfl rfl rfl XR.out rfl ?_; intro wb HX HG)); replace PY := yk (PY.out.grown_box XR.out (by decide) HG.out); replace PX := yk (PX.out.grown_box XR.out (by decide) HG.out); replace BEL := yk (BEL.out.grown HG.out (by omega)); replace XY := yk (blk_grown XY.out HG.out (Ne.symm NE_XR_XY.out)); replace XX := yk (blk_grown XX.out HG.out (Ne.symm NE_XR_XX.out)); replace XR := HX; clear HG)
    refine bodyPost_ret (results_list (rs := [.cell 6 27, .tmp 7, .tmp 8]) rfl (by simp) (Vals.box any_dyad info_dyad (g := w.heap.size) rfl XR.out rfl (.tmp (.tmp .nil)))) rfl ?_
    rw [HEE.out, HOO.out]
    exact ⟨_, rfl, PDy.zero _ _ _, BEL.out.1⟩
   case true =>
    obtain ⟨q0, q0', q1, q1', q2, q2'⟩ := bc3 XY.out
    go_wp2_with fail
    clear q0 q0' q1 q1' q2 q2'
    go_at_call 27
    refine (zero_ok PY.out.c (ok_z HZY.out)).mono ?_
    rintro en4 w4 ⟨rfl, hb⟩
    replace BEL := yk (BEL.out.next hb)
    replace XR := yk (yb XR.out hb)
    replace XY := yk (yb XY.out hb)
    replace XX := yk (yb XX.out hb)
    replace PY := yk (PY.out.below hb)
    replace PX := yk (PX.out.below hb)
    clear hb
    by_cases hp0 : p = 0
    case neg =>
     have hd : decide (p = 0) = false := decide_eq_false hp0
     have HEE : Aside0 (ee = 0) := ⟨by rw [HE.out]; rw [hd]; rfl⟩
     have HOO : Aside0 (eo = angF f p q) := ⟨by rw [HO.out, if_pos (by rw [hd]; simp)]⟩
     clear hp0
     obtain ⟨q3, q3', q4, q4', q5, q5'⟩ := bc3 XY.out
     obtain ⟨q6, q6', q7, q7', q8, q8'⟩ := bc3 XX.out
     go_wp2_with fail
     have BLA := BEL
     clear q3 q3' q4 q4' q5 q5' q6 q6' q7 q7' q8 q8'
     go_at_call 28
     refine (angle_any PY.out.c PX.out.c HZY.out HZX.out (tab_below HT.out BEL.out.1)).mono ?_
     rintro en5 w5 ⟨v5, rfl, hr, hb⟩
     replace BEL := yk (BEL.out.next hb)
     replace XR := yk (yb XR.out hb)
     replace XY := yk (yb XY.out hb)
     replace XX := yk (yb XX.out hb)
     replace PY := yk (PY.out.below hb)
     replace PX := yk (PX.out.below hb)
     have PA := yk hr
     obtain ⟨b5, A5, n5, c5, x5, s5, rfl, hs⟩ := hr.ex6
     have HS5 := yk hs
     clear hs
     clear hr hb
     have BELo := BEL
     go_wp2_with (replace BEL := yk ((BEL.out.alloc (.cells #[.bool false, .slice none 0 0, .int .i64 0, .bool false] 40)).less (j := 1) (by omega)); have HN := yk (blk_new w5 (.cells #[.bool false, .slice none 0 0, .int .i64 0, .bool false] 40)); have L_XR := lt_blk XR.out; replace XR := yk (blk_alloc XR.out (.cells #[.bool false, .slice none 0 0, .int .i64 0, .bool false] 40)); have L_XY := lt_blk XY.out; replace XY := yk (blk_alloc XY.out (.cells #[.bool false, .slice none 0 0, .int .i64 0, .bool false] 40)); have L_XX := lt_blk XX.out; replace XX := yk (blk_alloc XX.out (.cells #[.bool false, .slice none 0 0, .int .i64 0, .bool false] 40)); replace PY := yk (PY.out.below (below_alloc yr (.cells #[.bool false, .slice none 0 0, .int .i64 0, .bool false] 40))); replace PX := yk (PX.out.below (below_alloc yr (.cells #[.bool false, .slice none 0 0, .int .i64 0, .bool false] 40))); replace PA := yk (PA.out.below (below_alloc yr (.cells #[.bool false, .slice none 0 0, .int .i64 0, .bool false] 40))); ((with_reducible refine gate_store (p := 13) rfl ?_); go_must (refine store_box 40 13 (.tmp 48) rfl rfl rfl (g := w5.heap.size) (e := 40) (.agg #[.bool b5, .slice A5 n5 c5, .int .i64 x5, .bool s5]) ([.bool b5, .slice A5 n5 c5, .int .i64 x5, .bool s5]) rfl rfl rfl info_told ?b1 HN.out rfl ?_; (case b1 => intro q hq; simp at hq; rcases hq with rfl | rfl | rfl | rfl <;> rfl); intro wb hbx hgx; have HX := yk hbx; have HG := yk hgx; clear hbx hgx)); replace PY := yk (PY.out.grown_box HN.out (by decide) HG.out); replace PX := yk (PX.out.grown_box HN.out (by decide) HG.out); replace PA := yk (PA.out.grown_box HN.out (by decide) HG.out); have LB_XA := BELo.out.2; replace BEL := yk (BEL.out.grown HG.out (Nat.le_trans (Nat.le_add_right _ _) LB_XA)); replace XR := yk (blk_grown XR.out HG.out (Nat.ne_of_lt L_XR)); replace XY := yk (blk_grown XY.out HG.out (Nat.ne_of_lt L_XY)); replace XX := yk (blk_grown XX.out HG.out (Nat.ne_of_lt L_XX)); have NE_XR_XA := yk (Nat.ne_of_lt L_XR); have NE_XY_XA := yk (Nat.ne_of_lt L_XY); have NE_XX_XA := yk (Nat.ne_of_lt L_XX); clear L_XR; clear L_XY; clear L_XX; have LL_XA := yk LB_XA; clear LB_XA; have XA := HX; clear HG HN HX)
     go_upto_region 8 with fail
     obtain ⟨GM, hGM⟩ : ∃ G : (Nat → Prop) → (Nat → Value) → World → Prop, G = fun L v W => BelN w 1 W ∧ W.heap[w5.heap.size]? = some (.cells #[.bool b5, .slice A5 n5 c5, .int .i64 x5, .bool s5] 40 (0, 0)) ∧ PO W w.heap.size (.agg #[.bool b5, .slice A5 n5 c5, .int .i64 x5, .bool s5]) (angF f p q) ∧ (L 0 → (v 0) = .pointer (some ⟨w5.heap.size, 0, none⟩)) ∧ (L 1 → (v 1) = .agg #[.bool b5, .slice A5 n5 c5, .int .i64 x5]) ∧ (L 2 → (v 2) = .pointer (some ⟨w5.heap.size, 3, none⟩)) ∧ (L 3 → (v 3) = .bool s5) ∧ ((¬ L 4 → W.heap[w.heap.size]? = some (.cells #[.bool false, .slice none 0 0, .int .i64 0] 27 (0, 0))) ∧ (L 4 → W.heap[w.heap.size]? = some (.cells #[.bool b5, .slice A5 n5 c5, .int .i64 x5] 27 (0, 0)))) ∧ (L 5 → (v 5) = .bool s5) ∧ (L 6 → (v 6) = .int .i64 0) := ⟨_, rfl⟩
     refine wp_region_slotsV [49, 50, 51, 52, 99, 7, 8] (by kernel_rfl) (by kernel_rfl) (G := GM) ?h0M ?hstepM ?hendM
     case h0M =>
      intro v; rw [hGM]
      exact ⟨BEL.out.next (below_drew yr), blk_drew XA.out, (PA.out.below (below_drew yr)).lower BLA.out.1.size, fun h => h.elim, fun h => h.elim, fun h => h.elim, fun h => h.elim, ⟨fun _ => blk_drew XR.out, fun h => h.elim⟩, fun h => h.elim, fun h => h.elim⟩
     case hstepM =>
      intro k o ho v W L hGv hnk haft hcl K hK
      rw [hGM] at hGv
      obtain ⟨hB, hb0, hk0, f0, f1, f2, f3, f4, f5, f6⟩ := hGv
      rcases k with _ | _ | _ | _ | _ | _ | _ | k
      all_goals first
       | (cases ho; done)
       | (obtain rfl := (Option.some.inj ho).symm
          clear ho
          rw [if_pos (by rfl)]
          simp only [setAll, List.setIfInBounds_toArray, List.set_cons_zero, List.set_cons_succ, List.set_nil, List.getElem_toArray, List.getElem_cons_zero, List.getElem_cons_succ, Nat.reduceAdd] at haft hK ⊢)
      ·
       have hb := yw W
       have key := hK.out (.pointer (some ⟨w5.heap.size, 0, none⟩)) W (by rw [hGM]; exact ⟨hB.next hb, yb hb0 hb, hk0.below hb, yu, (kV f1), (kV f2), (kV f3), (⟨fun h2 => yb (f4.1 (fun h3 => h2 (.inl h3))) hb, fun h2 => yb (f4.2 (yx h2)) hb⟩), (kV f5), (kV f6)⟩)
       clear hb0 hk0 f0 f1 f2 f3 f4 f5 f6 hb hK
       go_simp
       simpa [upd] using key
      ·
       have hns4 : ¬ L 4 := fun hs => hnk (hcl 4 _ rfl hs ⟨1, .data⟩ (by simp) rfl)
       have d0 := f0 (haft ⟨0, .data⟩ (by simp) rfl)
       have D0 := d0
       have cc0 := (box_cell (v := .bool b5) hb0 0 rfl).1
       have cc1 := (box_cell (v := .slice A5 n5 c5) hb0 1 rfl).1
       have cc2 := (box_cell (v := .int .i64 x5) hb0 2 rfl).1
       have hb := yw W
       have key := hK.out (.agg #[.bool b5, .slice A5 n5 c5, .int .i64 x5]) W (by rw [hGM]; exact ⟨hB.next hb, yb hb0 hb, hk0.below hb, (kV f0), yu, (kV f2), (kV f3), (⟨fun h2 => yb (f4.1 (fun h3 => h2 (.inl h3))) hb, fun h2 => (hns4 (yx h2)).elim⟩), (kV f5), (kV f6)⟩)
       clear hb0 hk0 f0 f1 f2 f3 f4 f5 f6 hb hK
       go_simp
       simpa [upd, D0] using key
      ·
       have hb := yw W
       have key := hK.out (.pointer (some ⟨w5.heap.size, 3, none⟩)) W (by rw [hGM]; exact ⟨hB.next hb, yb hb0 hb, hk0.below hb, (kV f0), (kV f1), yu, (kV f3), (⟨fun h2 => yb (f4.1 (fun h3 => h2 (.inl h3))) hb, fun h2 => yb (f4.2 (yx h2)) hb⟩), (kV f5), (kV f6)⟩)
       clear hb0 hk0 f0 f1 f2 f3 f4 f5 f6 hb hK
       go_simp
       simpa [upd] using key
      ·
       have d2 := f2 (haft ⟨2, .data⟩ (by simp) rfl)
       have D2 := d2
       have cc3 := (box_cell (v := .bool s5) hb0 3 rfl).1
       have hb := yw W
       have key := hK.out (.bool s5) W (by rw [hGM]; exact ⟨hB.next hb, yb hb0 hb, hk0.below hb, (kV f0), (kV f1), (kV f2), yu, (⟨fun h2 => yb (f4.1 (fun h3 => h2 (.inl h3))) hb, fun h2 => yb (f4.2 (yx h2)) hb⟩), (kV f5), (kV f6)⟩)
       clear hb0 hk0 f0 f1 f2 f3 f4 f5 f6 hb hK
       go_simp
       simpa [upd, D2] using key
      ·
       have h_n := NE_XR_XA.out
       have hgb := f4.1 hnk
       have ds := f1 (haft ⟨1, .data⟩ (by simp) rfl)
       have es := ds
       refine wp_store_box 27 6 (.tmp 50) rfl rfl (g := w.heap.size) (e := 27) (v 1) [.bool b5, .slice A5 n5 c5, .int .i64 x5] (by first | rfl | exact rfl) rfl (by rw [es]; rfl) info_dyad ?_ hgb rfl ?_
       · intro q hq; simp at hq; rcases hq with rfl | rfl | rfl <;> rfl
       · intro w1 hw1 hg
         have key := hK.out undef w1 (by rw [hGM]; exact ⟨hB.grown hg (by omega), blk_grown hb0 hg (by omega), hk0.grown_box hgb (by decide) hg, (kV f0), (kV f1), (kV f2), (kV f3), ⟨fun h => (h (.inr rfl)).elim, fun _ => hw1⟩, (kV f5), (kV f6)⟩)
         clear hb0 hk0 f0 f1 f2 f3 f4 f5 f6 hK
         simpa [upd] using key
      ·
       have d3 := f3 (haft ⟨3, .data⟩ (by simp) rfl)
       have D3 := d3
       have hb := yw W
       have key := hK.out (.bool s5) W (by rw [hGM]; exact ⟨hB.next hb, yb hb0 hb, hk0.below hb, (kV f0), (kV f1), (kV f2), (kV f3), (⟨fun h2 => yb (f4.1 (fun h3 => h2 (.inl h3))) hb, fun h2 => yb (f4.2 (yx h2)) hb⟩), yu, (kV f6)⟩)
       clear hb0 hk0 f0 f1 f2 f3 f4 f5 f6 hb hK
       go_simp
       simpa [upd, D3] using key
      ·
       have hb := yw W
       have key := hK.out (.int .i64 0) W (by rw [hGM]; exact ⟨hB.next hb, yb hb0 hb, hk0.below hb, (kV f0), (kV f1), (kV f2), (kV f3), (⟨fun h2 => yb (f4.1 (fun h3 => h2 (.inl h3))) hb, fun h2 => yb (f4.2 (yx h2)) hb⟩), (kV f5), yu⟩)
       clear hb0 hk0 f0 f1 f2 f3 f4 f5 f6 hb hK
       go_simp
       simpa [upd] using key
     case hendM =>
      intro v W L0 hall hGv
      rw [hGM] at hGv
      obtain ⟨hB, hb0, hk0, f0, f1, f2, f3, f4, f5, f6⟩ := hGv
      have d5 := f5 (hall 5 (by decide))
      have d6 := f6 (hall 6 (by decide))
      have d4 := f4.2 (hall 4 (by decide))
      replace BEL := yk hB
      replace XR := yk d4
      replace PA := yk hk0
      clear hall f0 f1 f2 f3 f4 f5 f6 hB hb0 hk0 d4
      simp only [setAll, List.setIfInBounds_toArray, List.set_cons_zero, List.set_cons_succ, List.set_nil, Nat.reduceAdd, d5, d6]
      go_wp2
      refine bodyPost_ret (results_list (rs := [.cell 6 27, .tmp 7, .tmp 8]) rfl (by simp) (Vals.box any_dyad info_dyad (g := w.heap.size) rfl XR.out rfl (.tmp (.tmp .nil)))) rfl ?_
      rw [HEE.out, HOO.out]
      obtain ⟨q1, q2⟩ := PT.d PA.out
      exact ⟨_, by rw [q2]; rfl, q1, BEL.out.1⟩
    case pos =>
     have hd : decide (p = 0) = true := decide_eq_true hp0
     have HP0 := yk hp0
     clear hp0
     obtain ⟨q3, q3', q4, q4', q5, q5'⟩ := bc3 XX.out
     go_wp2_with fail
     clear q3 q3' q4 q4' q5 q5'
     go_at_call 27
     refine (zero_ok PX.out.c (ok_z HZX.out)).mono ?_
     rintro en5 w5 ⟨rfl, hb⟩
     replace BEL := yk (BEL.out.next hb)
     replace XR := yk (yb XR.out hb)
     replace XY := yk (yb XY.out hb)
     replace XX := yk (yb XX.out hb)
     replace PY := yk (PY.out.below hb)
     replace PX := yk (PX.out.below hb)
     clear hb
     by_cases hq0 : q = 0
     case pos =>
      have hdq : decide (q = 0) = true := decide_eq_true hq0
      have HEE : Aside0 (ee = 5) := ⟨by rw [HE.out]; rw [hd, hdq]; rfl⟩
      have HOO : Aside0 (eo = none) := ⟨by rw [HO.out, if_neg (fun h => by have := h.2; rw [hd, hdq] at this; cases this)]⟩
      clear hq0
      go_wp2_with (((with_reducible refine gate_store (p := 6) rfl ?_); go_must (refine sdy 6 (.tmp 44) rfl rfl rfl rfl rfl XR.out rfl ?_; intro wb HX HG)); replace PY := yk (PY.out.grown_box XR.out (by decide) HG.out); replace PX := yk (PX.out.grown_box XR.out (by decide) HG.out); replace BEL := yk (BEL.out.grown HG.out (by omega)); replace XY := yk (blk_grown XY.out HG.out (Ne.symm NE_XR_XY.out)); replace XX := yk (blk_grown XX.out HG.out (Ne.symm NE_XR_XX.out)); replace XR := HX; clear HG)
      refine bodyPost_ret (results_list (rs := [.cell 6 27, .tmp 7, .tmp 8]) rfl (by simp) (Vals.box any_dyad info_dyad (g := w.heap.size) rfl XR.out rfl (.tmp (.tmp .nil)))) rfl ?_
      rw [HEE.out, HOO.out]
      exact ⟨_, rfl, PDy.zero _ _ _, BEL.out.1⟩
     case neg =>
      have hdq : decide (q = 0) = false := decide_eq_false hq0
      have HEE : Aside0 (ee = 0) := ⟨by rw [HE.out]; rw [hd, hdq]; rfl⟩
      have HOO : Aside0 (eo = angF f p q) := ⟨by rw [HO.out, if_pos (by rw [hd, hdq]; simp)]⟩
      clear hq0
      obtain ⟨q6, q6', q7, q7', q8, q8'⟩ := bc3 XY.out
      obtain ⟨q9, q9', q10, q10', q11, q11'⟩ := bc3 XX.out
      go_wp2_with fail
      have BLA := BEL
      clear q6 q6' q7 q7' q8 q8' q9 q9' q10 q10' q11 q11'
      go_at_call 28
      refine (angle_any PY.out.c PX.out.c HZY.out HZX.out (tab_below HT.out BEL.out.1)).mono ?_
      rintro en6 w6 ⟨v6, rfl, hr, hb⟩
      replace BEL := yk (BEL.out.next hb)
      replace XR := yk (yb XR.out hb)
      replace XY := yk (yb XY.out hb)
      replace XX := yk (yb XX.out hb)
      replace PY := yk (PY.out.below hb)
      replace PX := yk (PX.out.below hb)
      have PA := yk hr
      obtain ⟨b6, A6, n6, c6, x6, s6, rfl, hs⟩ := hr.ex6
      have HS6 := yk hs
      clear hs
      clear hr hb
      have BELo := BEL
      go_wp2_with (replace BEL := yk ((BEL.out.alloc (.cells #[.bool false, .slice none 0 0, .int .i64 0, .bool false] 40)).less (j := 1) (by omega)); have HN := yk (blk_new w6 (.cells #[.bool false, .slice none 0 0, .int .i64 0, .bool false] 40)); have L_XR := lt_blk XR.out; replace XR := yk (blk_alloc XR.out (.cells #[.bool false, .slice none 0 0, .int .i64 0, .bool false] 40)); have L_XY := lt_blk XY.out; replace XY := yk (blk_alloc XY.out (.cells #[.bool false, .slice none 0 0, .int .i64 0, .bool false] 40)); have L_XX := lt_blk XX.out; replace XX := yk (blk_alloc XX.out (.cells #[.bool false, .slice none 0 0, .int .i64 0, .bool false] 40)); replace PY := yk (PY.out.below (below_alloc yr (.cells #[.bool false, .slice none 0 0, .int .i64 0, .bool false] 40))); replace PX := yk (PX.out.below (below_alloc yr (.cells #[.bool false, .slice none 0 0, .int .i64 0, .bool false] 40))); replace PA := yk (PA.out.below (below_alloc yr (.cells #[.bool false, .slice none 0 0, .int .i64 0, .bool false] 40))); ((with_reducible refine gate_store (p := 13) rfl ?_); go_must (refine store_box 40 13 (.tmp 48) rfl rfl rfl (g := w6.heap.size) (e := 40) (.agg #[.bool b6, .slice A6 n6 c6, .int .i64 x6, .bool s6]) ([.bool b6, .slice A6 n6 c6, .int .i64 x6, .bool s6]) rfl rfl rfl info_told ?b1 HN.out rfl ?_; (case b1 => intro q hq; simp at hq; rcases hq with rfl | rfl | rfl | rfl <;> rfl); intro wb hbx hgx; have HX := yk hbx; have HG := yk hgx; clear hbx hgx)); replace PY := yk (PY.out.grown_box HN.out (by decide) HG.out); replace PX := yk (PX.out.grown_box HN.out (by decide) HG.out); replace PA := yk (PA.out.grown_box HN.out (by decide) HG.out); have LB_XA := BELo.out.2; replace BEL := yk (BEL.out.grown HG.out (Nat.le_trans (Nat.le_add_right _ _) LB_XA)); replace XR := yk (blk_grown XR.out HG.out (Nat.ne_of_lt L_XR)); replace XY := yk (blk_grown XY.out HG.out (Nat.ne_of_lt L_XY)); replace XX := yk (blk_grown XX.out HG.out (Nat.ne_of_lt L_XX)); have NE_XR_XA := yk (Nat.ne_of_lt L_XR); have NE_XY_XA := yk (Nat.ne_of_lt L_XY); have NE_XX_XA := yk (Nat.ne_of_lt L_XX); clear L_XR; clear L_XY; clear L_XX; have LL_XA := yk LB_XA; clear LB_XA; have XA := HX; clear HG HN HX)
      go_upto_region 8 with fail
      obtain ⟨GN, hGN⟩ : ∃ G : (Nat → Prop) → (Nat → Value) → World → Prop, G = fun L v W => BelN w 1 W ∧ W.heap[w6.heap.size]? = some (.cells #[.bool b6, .slice A6 n6 c6, .int .i64 x6, .bool s6] 40 (0, 0)) ∧ PO W w.heap.size (.agg #[.bool b6, .slice A6 n6 c6, .int .i64 x6, .bool s6]) (angF f p q) ∧ (L 0 → (v 0) = .pointer (some ⟨w6.heap.size, 0, none⟩)) ∧ (L 1 → (v 1) = .agg #[.bool b6, .slice A6 n6 c6, .int .i64 x6]) ∧ (L 2 → (v 2) = .pointer (some ⟨w6.heap.size, 3, none⟩)) ∧ (L 3 → (v 3) = .bool s6) ∧ ((¬ L 4 → W.heap[w.heap.size]? = some (.cells #[.bool false, .slice none 0 0, .int .i64 0] 27 (0, 0))) ∧ (L 4 → W.heap[w.heap.size]? = some (.cells #[.bool b6, .slice A6 n6 c6, .int .i64 x6] 27 (0, 0)))) ∧ (L 5 → (v 5) = .bool s6) ∧ (L 6 → (v 6) = .int .i64 0) := ⟨_, rfl⟩
      refine wp_region_slotsV [49, 50, 51, 52, 99, 7, 8] (by kernel_rfl) (by kernel_rfl) (G := GN) ?h0N ?hstepN ?hendN
      case h0N =>
       intro v; rw [hGN]
       exact ⟨BEL.out.next (below_drew yr), blk_drew XA.out, (PA.out.below (below_drew yr)).lower BLA.out.1.size, fun h => h.elim, fun h => h.elim, fun h => h.elim, fun h => h.elim, ⟨fun _ => blk_drew XR.out, fun h => h.elim⟩, fun h => h.elim, fun h => h.elim⟩
      case hstepN =>
       intro k o ho v W L hGv hnk haft hcl K hK
       rw [hGN] at hGv
       obtain ⟨hB, hb0, hk0, f0, f1, f2, f3, f4, f5, f6⟩ := hGv
       rcases k with _ | _ | _ | _ | _ | _ | _ | k
       all_goals first
        | (cases ho; done)
        | (obtain rfl := (Option.some.inj ho).symm
           clear ho
           rw [if_pos (by rfl)]
           simp only [setAll, List.setIfInBounds_toArray, List.set_cons_zero, List.set_cons_succ, List.set_nil, List.getElem_toArray, List.getElem_cons_zero, List.getElem_cons_succ, Nat.reduceAdd] at haft hK ⊢)
       ·
        have hb := yw W
        have key := hK.out (.pointer (some ⟨w6.heap.size, 0, none⟩)) W (by rw [hGN]; exact ⟨hB.next hb, yb hb0 hb, hk0.below hb, yu, (kV f1), (kV f2), (kV f3), (⟨fun h2 => yb (f4.1 (fun h3 => h2 (.inl h3))) hb, fun h2 => yb (f4.2 (yx h2)) hb⟩), (kV f5), (kV f6)⟩)
        clear hb0 hk0 f0 f1 f2 f3 f4 f5 f6 hb hK
        go_simp
        simpa [upd] using key
       ·
        have hns4 : ¬ L 4 := fun hs => hnk (hcl 4 _ rfl hs ⟨1, .data⟩ (by simp) rfl)
        have d0 := f0 (haft ⟨0, .data⟩ (by simp) rfl)
        have D0 := d0
        have cc0 := (box_cell (v := .bool b6) hb0 0 rfl).1
        have cc1 := (box_cell (v := .slice A6 n6 c6) hb0 1 rfl).1
        have cc2 := (box_cell (v := .int .i64 x6) hb0 2 rfl).1
        have hb := yw W
        have key := hK.out (.agg #[.bool b6, .slice A6 n6 c6, .int .i64 x6]) W (by rw [hGN]; exact ⟨hB.next hb, yb hb0 hb, hk0.below hb, (kV f0), yu, (kV f2), (kV f3), (⟨fun h2 => yb (f4.1 (fun h3 => h2 (.inl h3))) hb, fun h2 => (hns4 (yx h2)).elim⟩), (kV f5), (kV f6)⟩)
        clear hb0 hk0 f0 f1 f2 f3 f4 f5 f6 hb hK
        go_simp
        simpa [upd, D0] using key
       ·
        have hb := yw W
        have key := hK.out (.pointer (some ⟨w6.heap.size, 3, none⟩)) W (by rw [hGN]; exact ⟨hB.next hb, yb hb0 hb, hk0.below hb, (kV f0), (kV f1), yu, (kV f3), (⟨fun h2 => yb (f4.1 (fun h3 => h2 (.inl h3))) hb, fun h2 => yb (f4.2 (yx h2)) hb⟩), (kV f5), (kV f6)⟩)
        clear hb0 hk0 f0 f1 f2 f3 f4 f5 f6 hb hK
        go_simp
        simpa [upd] using key
       ·
        have d2 := f2 (haft ⟨2, .data⟩ (by simp) rfl)
        have D2 := d2
        have cc3 := (box_cell (v := .bool s6) hb0 3 rfl).1
        have hb := yw W
        have key := hK.out (.bool s6) W (by rw [hGN]; exact ⟨hB.next hb, yb hb0 hb, hk0.below hb, (kV f0), (kV f1), (kV f2), yu, (⟨fun h2 => yb (f4.1 (fun h3 => h2 (.inl h3))) hb, fun h2 => yb (f4.2 (yx h2)) hb⟩), (kV f5), (kV f6)⟩)
        clear hb0 hk0 f0 f1 f2 f3 f4 f5 f6 hb hK
        go_simp
        simpa [upd, D2] using key
       ·
        have h_n := NE_XR_XA.out
        have hgb := f4.1 hnk
        have ds := f1 (haft ⟨1, .data⟩ (by simp) rfl)
        have es := ds
        refine wp_store_box 27 6 (.tmp 50) rfl rfl (g := w.heap.size) (e := 27) (v 1) [.bool b6, .slice A6 n6 c6, .int .i64 x6] (by first | rfl | exact rfl) rfl (by rw [es]; rfl) info_dyad ?_ hgb rfl ?_
        · intro q hq; simp at hq; rcases hq with rfl | rfl | rfl <;> rfl
        · intro w1 hw1 hg
          have key := hK.out undef w1 (by rw [hGN]; exact ⟨hB.grown hg (by omega), blk_grown hb0 hg (by omega), hk0.grown_box hgb (by decide) hg, (kV f0), (kV f1), (kV f2), (kV f3), ⟨fun h => (h (.inr rfl)).elim, fun _ => hw1⟩, (kV f5), (kV f6)⟩)
          clear hb0 hk0 f0 f1 f2 f3 f4 f5 f6 hK
          simpa [upd] using key
       ·
        have d3 := f3 (haft ⟨3, .data⟩ (by simp) rfl)
        have D3 := d3
        have hb := yw W
        have key := hK.out (.bool s6) W (by rw [hGN]; exact ⟨hB.next hb, yb hb0 hb, hk0.below hb, (kV f0), (kV f1), (kV f2), (kV f3), (⟨fun h2 => yb (f4.1 (fun h3 => h2 (.inl h3))) hb, fun h2 => yb (f4.2 (yx h2)) hb⟩), yu, (kV f6)⟩)
        clear hb0 hk0 f0 f1 f2 f3 f4 f5 f6 hb hK
        go_simp
        simpa [upd, D3] using key
       ·
        have hb := yw W
        have key := hK.out (.int .i64 0) W (by rw [hGN]; exact ⟨hB.next hb, yb hb0 hb, hk0.below hb, (kV f0), (kV f1), (kV f2), (kV f3), (⟨fun h2 => yb (f4.1 (fun h3 => h2 (.inl h3))) hb, fun h2 => yb (f4.2 (yx h2)) hb⟩), (kV f5), yu⟩)
        clear hb0 hk0 f0 f1 f2 f3 f4 f5 f6 hb hK
        go_simp
        simpa [upd] using key
      case hendN =>
       intro v W L0 hall hGv
       rw [hGN] at hGv
       obtain ⟨hB, hb0, hk0, f0, f1, f2, f3, f4, f5, f6⟩ := hGv
       have d5 := f5 (hall 5 (by decide))
       have d6 := f6 (hall 6 (by decide))
       have d4 := f4.2 (hall 4 (by decide))
       replace BEL := yk hB
       replace XR := yk d4
       replace PA := yk hk0
       clear hall f0 f1 f2 f3 f4 f5 f6 hB hb0 hk0 d4
       simp only [setAll, List.setIfInBounds_toArray, List.set_cons_zero, List.set_cons_succ, List.set_nil, Nat.reduceAdd, d5, d6]
       go_wp2
       refine bodyPost_ret (results_list (rs := [.cell 6 27, .tmp 7, .tmp 8]) rfl (by simp) (Vals.box any_dyad info_dyad (g := w.heap.size) rfl XR.out rfl (.tmp (.tmp .nil)))) rfl ?_
       rw [HEE.out, HOO.out]
       obtain ⟨q1, q2⟩ := PT.d PA.out
       exact ⟨_, by rw [q2]; rfl, q1, BEL.out.1⟩
theorem live1 : (exE 9 4652007308841189376, exO 9 4652007308841189376) = (0, some (3, 0)) := by kernel_rfl
theorem live2 : (exE 18 4598175219545276416, exO 18 4598175219545276416) = (0, some (1, 0)) := by kernel_rfl
theorem live3 : exE 18 4602678819172646912 = 5 := by kernel_rfl
theorem live4 : (exE2 34 4607182418800017408 13830554455654793216, exO2 34 4607182418800017408 13830554455654793216) = (0, some (3, -2)) := by kernel_rfl
theorem live5 : domF 7 4607182418800017408 = true := by kernel_rfl
theorem tabs_step {T : List (Option Value)} {L : Nat → Prop} {v : Nat → Value} {k : Nat} {x : Value} (h : ∀ j c, L j → T[j]? = some (some c) → v j = c) (hk : ∀ c, T[k]? = some (some c) → x = c) : ∀ j c, (L j ∨ j = k) → T[j]? = some (some c) → upd v k x j = c := by
 intro j c hj ht
 by_cases he : j = k
 · subst he; rw [upd_eq]; exact hk c ht
 · rw [upd_ne v _ he]; exact h j c (hj.resolve_right he) ht
theorem RDy.ex {w : World} {b : Nat} {v : Value} {z e : Int} (h : RDy w b v z e) : ∃ bb A n c x, v = .agg #[.bool bb, .slice A n c, .int .i64 x] := by
 obtain ⟨A, n, c, rfl, hr⟩ := h
 exact ⟨_, _, _, _, _, rfl⟩
theorem RDy.grown_box {w w1 : World} {b g : Nat} {v : Value} {z e : Int} {t : TypeId} {cells : Array Value} (h : RDy w b v z e) (hb : w.heap[g]? = some (.cells cells t (0, 0))) (ht : 23 ≠ t) (hg : w.grownBy w1 (some g)) : RDy w1 b v z e := by
 obtain ⟨A, n, c, rfl, hr⟩ := h
 refine ⟨A, n, c, rfl, Kd.R_mono (Kd.R_grown (Kd.R_types hr hb ?_) hg ?_) (fun _ _ => trivial)⟩
 · intro q hq
   rcases List.mem_cons.1 hq with rfl | hq
   · exact ht
   · cases hq
 · rintro k ⟨_, hk⟩ he
   cases he
   exact hk rfl
theorem CDy.lit {w : World} {g : Nat} {b : Bool} {m : Nat} {e : Int} (h : w.heap[g]? = some (.cells #[.int .u64 (m : Int)] 23 (0, 0))) (hC : kU.C w (some ⟨g, 0, none⟩) 1 [m]) (hl : limbs (cman (sgn b m)) = [m]) (h1 : cneg (sgn b m) = b) (h2 : cexp (sgn b m) e = e) :
 CDy w (.agg #[.bool b, .slice (some ⟨g, 0, none⟩) 1 1, .int .i64 e]) (sgn b m) e := ⟨some ⟨g, 0, none⟩, 1, 1, by rw [h1, h2], by rw [hl]; exact hC, by rw [hl]; rfl, Nat.le_refl _⟩
theorem row_c (w : World) (x : Nat) : kU.C (w.alloc (.cells #[.int .u64 (x : Int)] 23)) (some ⟨w.heap.size, 0, none⟩) 1 [x] := by
 obtain ⟨A, c, he, _, hC⟩ := Kd.R_reads (row_one w x)
 injection he with h1 h2 h3
 subst h1 h3
 exact hC
theorem dint_neg {n : Int} (w : World) (hn : n < 0) (h1 : -9223372036854775808 ≤ n) (h2 : n < 9223372036854775808) :
 Calls Tryz.prog 21 #[.int .i64 n] w fun en w' => ∃ v', en = .returned v' ∧ RDy w' w.heap.size v' n 0 ∧ Below w.heap.size w w' := by
 obtain ⟨m, hm⟩ : ∃ m, m = n.natAbs := ⟨_, rfl⟩
 have hm64 : m < 18446744073709551616 := by omega
 have QO := yk (fun (W : World) => of_any m hm64 W)
 have QF := yk (fun (A : Option Addr) (c : Nat) (W : World) (hC : kU.C W A (limbs m).length (limbs m)) (hc : (limbs m).length ≤ c) => (by
  have hl : (limbs m).length ≤ 1 := limbs_len_le (by omega)
  have q := form_any (decide (n < 0)) (limbs m) A _ c 0 rfl W hC hc (wf_limbs _) (by omega) (by omega) (by omega)
  rw [nv_limbs, hm, show sgn (decide (n < 0)) n.natAbs = n from sgn_self n, ← hm] at q
  exact q : Calls Tryz.prog 42 #[.bool (decide (n < 0)), .slice A (limbs m).length c, .int .i64 0] W fun en w' => ∃ v', en = .returned v' ∧ RDy w' W.heap.size v' n 0 ∧ Below W.heap.size W w'))
 obtain ⟨a0, e1, e2⟩ : ∃ a0 : Nat, IntKind.u64.wrap n = (a0 : Int) ∧ IntKind.u64.wrap (-(a0 : Int)) = (m : Int) := ⟨(n % 18446744073709551616).toNat, by unfold IntKind.wrap; simp [IntKind.bits, IntKind.signed]; omega, by unfold IntKind.wrap; simp [IntKind.bits, IntKind.signed]; omega⟩
 have e3 : IntKind.u64.wrap (0 - (a0 : Int)) = (m : Int) := by rw [Int.zero_sub]; exact e2
 have hd : decide (n < 0) = true := decide_eq_true hn
 rw [hd] at QF
 clear hm h1 h2
 go_enter Tryz.func21, Tryz.ntmps21
 obtain ⟨BEL, XR⟩ := al1 w 1 #[.bool false, .slice none 0 0, .int .i64 0] 27
 go_wp2_with fail
 go_at_call 43
 refine (QO.out _).mono ?_
 rintro en1 w1 ⟨v1, rfl, ho, hb⟩
 replace BEL := yk (BEL.out.next hb)
 replace XR := yk (yb XR.out hb)
 obtain ⟨A1, c1, rfl, hc1, hC1⟩ := Kd.R_reads ho
 have HC := yk hC1
 have HCC := yk hc1
 clear ho hb hC1 hc1
 go_wp2_with fail
 go_at_call 42
 refine (QF.out _ _ _ HC.out HCC.out).mono ?_
 have BL0 := BEL
 rintro en2 w2 ⟨v2, rfl, hr, hb⟩
 replace BEL := yk (BEL.out.next hb)
 replace XR := yk (yb XR.out hb)
 have P2 := yk hr
 obtain ⟨b2, A2, n2, c2, x2, rfl⟩ := hr.ex
 clear hr hb
 go_wp2_with (((with_reducible refine gate_store (p := 2) rfl ?_); go_must (refine sdy 2 (.tmp 9) rfl rfl rfl rfl rfl XR.out rfl ?_; intro wb HX HG)); replace P2 := yk (P2.out.grown_box XR.out (by decide) HG.out); replace BEL := yk (BEL.out.grown HG.out (by omega)); replace XR := HX; clear HG)
 refine bodyPost_ret (results_dyad rfl _ _ (w.heap.size) _ rfl XR.out rfl) rfl ?_
 exact ⟨_, rfl, P2.out.lower BL0.out.1.size, BEL.out.1⟩

theorem dint_pos {n : Int} (w : World) (hn : ¬ n < 0) (h1 : -9223372036854775808 ≤ n) (h2 : n < 9223372036854775808) :
 Calls Tryz.prog 21 #[.int .i64 n] w fun en w' => ∃ v', en = .returned v' ∧ RDy w' w.heap.size v' n 0 ∧ Below w.heap.size w w' := by
 obtain ⟨m, hm⟩ : ∃ m, m = n.natAbs := ⟨_, rfl⟩
 have hm64 : m < 18446744073709551616 := by omega
 have QO := yk (fun (W : World) => of_any m hm64 W)
 have QF := yk (fun (A : Option Addr) (c : Nat) (W : World) (hC : kU.C W A (limbs m).length (limbs m)) (hc : (limbs m).length ≤ c) => (by
  have hl : (limbs m).length ≤ 1 := limbs_len_le (by omega)
  have q := form_any (decide (n < 0)) (limbs m) A _ c 0 rfl W hC hc (wf_limbs _) (by omega) (by omega) (by omega)
  rw [nv_limbs, hm, show sgn (decide (n < 0)) n.natAbs = n from sgn_self n, ← hm] at q
  exact q : Calls Tryz.prog 42 #[.bool (decide (n < 0)), .slice A (limbs m).length c, .int .i64 0] W fun en w' => ∃ v', en = .returned v' ∧ RDy w' W.heap.size v' n 0 ∧ Below W.heap.size W w'))
 have e1 : IntKind.u64.wrap n = (m : Int) := by unfold IntKind.wrap; simp [IntKind.bits, IntKind.signed]; omega
 have hd : decide (n < 0) = false := decide_eq_false hn
 have hn2 : 0 ≤ n := by omega
 rw [hd] at QF
 clear hm h1 h2 hn
 go_enter Tryz.func21, Tryz.ntmps21
 obtain ⟨BEL, XR⟩ := al1 w 1 #[.bool false, .slice none 0 0, .int .i64 0] 27
 go_wp2_with fail
 go_at_call 43
 refine (QO.out _).mono ?_
 rintro en1 w1 ⟨v1, rfl, ho, hb⟩
 replace BEL := yk (BEL.out.next hb)
 replace XR := yk (yb XR.out hb)
 obtain ⟨A1, c1, rfl, hc1, hC1⟩ := Kd.R_reads ho
 have HC := yk hC1
 have HCC := yk hc1
 clear ho hb hC1 hc1
 go_wp2_with fail
 go_at_call 42
 refine (QF.out _ _ _ HC.out HCC.out).mono ?_
 have BL0 := BEL
 rintro en2 w2 ⟨v2, rfl, hr, hb⟩
 replace BEL := yk (BEL.out.next hb)
 replace XR := yk (yb XR.out hb)
 have P2 := yk hr
 obtain ⟨b2, A2, n2, c2, x2, rfl⟩ := hr.ex
 clear hr hb
 go_wp2_with (((with_reducible refine gate_store (p := 2) rfl ?_); go_must (refine sdy 2 (.tmp 13) rfl rfl rfl rfl rfl XR.out rfl ?_; intro wb HX HG)); replace P2 := yk (P2.out.grown_box XR.out (by decide) HG.out); replace BEL := yk (BEL.out.grown HG.out (by omega)); replace XR := HX; clear HG)
 refine bodyPost_ret (results_dyad rfl _ _ (w.heap.size) _ rfl XR.out rfl) rfl ?_
 exact ⟨_, rfl, P2.out.lower BL0.out.1.size, BEL.out.1⟩

theorem dint_any (n : Int) (w : World) (h1 : -9223372036854775808 ≤ n) (h2 : n < 9223372036854775808) :
 Calls Tryz.prog 21 #[.int .i64 n] w fun en w' => ∃ v', en = .returned v' ∧ RDy w' w.heap.size v' n 0 ∧ Below w.heap.size w w' := by
 by_cases hn : n < 0
 · exact dint_neg w hn h1 h2
 · exact dint_pos w hn h1 h2
theorem same_ok {u v : Value} {y z e e' : Int} {w : World} (h : CDy w u y e) (h' : CDy w v z e') (o : Ok y e) :
 Calls Tryz.prog 8 #[u, v] w fun en w' => en = .returned (.bool (decide (cneg y = cneg z ∧ cexp y e = cexp z e' ∧ cman y = cman z))) ∧ Below w.heap.size w w' := same_any' u v y z e e' w h h' o.len30 (Int.le_trans (by decide) o.lo) (Int.le_trans o.hi (by decide))
theorem same_self {u v : Value} {y e : Int} {w : World} (h : CDy w u y e) (h' : CDy w v y e) (o : Ok y e) :
 Calls Tryz.prog 8 #[u, v] w fun en w' => en = .returned (.bool true) ∧ Below w.heap.size w w' := by
 have q := same_ok h h' o
 rw [decide_eq_true (⟨rfl, rfl, rfl⟩ : cneg y = cneg y ∧ cexp y e = cexp y e ∧ cman y = cman y)] at q
 exact q
theorem live1a : exE 9 4652007308841189376 = 0 := (Prod.mk.inj live1).1
theorem live1b : exO 9 4652007308841189376 = some (3, 0) := (Prod.mk.inj live1).2
theorem live2a : exE 18 4598175219545276416 = 0 := (Prod.mk.inj live2).1
theorem live2b : exO 18 4598175219545276416 = some (1, 0) := (Prod.mk.inj live2).2
theorem live3b : exO 18 4602678819172646912 = none := by kernel_rfl
theorem live4a : exE2 34 4607182418800017408 13830554455654793216 = 0 := (Prod.mk.inj live4).1
theorem live4b : exO2 34 4607182418800017408 13830554455654793216 = some (3, -2) := (Prod.mk.inj live4).2

theorem lives_any (w : World) (hT : TabAt 0 Lib.deBruijn64tab w) :
 Calls Tryz.prog 7 #[] w fun en w' => en = .returned (.bool true) ∧ Below w.heap.size w w' := by
 have HT := yk hT
 have BEL := yk (BelN.zero w)
 have Q1 := yk (fun (W : World) (ht : TabAt 0 Lib.deBruijn64tab W) => (by
  have q := exact_any 9 4652007308841189376 (by decide) (by decide) W ht
  rw [live1a, live1b] at q
  exact q : Calls Tryz.prog 5 #[.int .u8 9, .int .u64 4652007308841189376] W fun en w' => ∃ v', en = .returned (.tuple #[v', .bool true, .int .i64 0]) ∧ PDy w' W.heap.size v' (3) (0) ∧ Below W.heap.size W w'))
 have Q2 := yk (fun (W : World) (ht : TabAt 0 Lib.deBruijn64tab W) => (by
  have q := exact_any 18 4598175219545276416 (by decide) (by decide) W ht
  rw [live2a, live2b] at q
  exact q : Calls Tryz.prog 5 #[.int .u8 18, .int .u64 4598175219545276416] W fun en w' => ∃ v', en = .returned (.tuple #[v', .bool true, .int .i64 0]) ∧ PDy w' W.heap.size v' (1) (0) ∧ Below W.heap.size W w'))
 have Q3 := yk (fun (W : World) (ht : TabAt 0 Lib.deBruijn64tab W) => (by
  have q := exact_any 18 4602678819172646912 (by decide) (by decide) W ht
  rw [live3, live3b] at q
  exact q : Calls Tryz.prog 5 #[.int .u8 18, .int .u64 4602678819172646912] W fun en w' => ∃ v', en = .returned (.tuple #[v', .bool false, .int .i64 5]) ∧ PDy w' W.heap.size v' (0) (0) ∧ Below W.heap.size W w'))
 have Q4 := yk (fun (W : World) (ht : TabAt 0 Lib.deBruijn64tab W) => (by
  have q := exact2_any 34 4607182418800017408 13830554455654793216 (by decide) (by decide) (by decide) W ht
  rw [live4a, live4b] at q
  exact q : Calls Tryz.prog 15 #[.int .u8 34, .int .u64 4607182418800017408, .int .u64 13830554455654793216] W fun en w' => ∃ v', en = .returned (.tuple #[v', .bool true, .int .i64 0]) ∧ PDy w' W.heap.size v' (3) (-2) ∧ Below W.heap.size W w'))
 have QD := yk (fun (W : World) (ht : TabAt 0 Lib.deBruijn64tab W) => (by
  have q := domain_any 7 4607182418800017408 (by decide) (by decide) W ht
  rw [live5] at q
  exact q : Calls Tryz.prog 13 #[.int .u8 7, .int .u64 4607182418800017408] W fun en w' => en = .returned (.bool true) ∧ Below W.heap.size W w'))
 clear hT
 go_enter Tryz.func7, Tryz.ntmps7
 go_wp2_with fail
 go_at_call 5
 refine (Q1.out _ (tab_below HT.out BEL.out.1)).mono ?_
 rintro en1 w1 ⟨v1, rfl, hr, hb⟩
 replace BEL := yk (BEL.out.next hb)
 have P1 := yk hr
 obtain ⟨b1, A1, n1, c1, x1, rfl⟩ := hr.ex
 clear hr hb
 have BELo := BEL
 go_wp2_with (replace BEL := yk ((BEL.out.alloc (.cells #[.bool false, .slice none 0 0, .int .i64 0] 27)).less (j := 0) (by omega)); have HN := yk (blk_new w1 (.cells #[.bool false, .slice none 0 0, .int .i64 0] 27)); replace P1 := yk (P1.out.below (below_alloc yr (.cells #[.bool false, .slice none 0 0, .int .i64 0] 27))); ((with_reducible refine gate_store (p := 1) rfl ?_); go_must (refine sdy 1 (.tmp 15) rfl rfl rfl rfl rfl HN.out rfl ?_; intro wb HX HG)); replace P1 := yk (P1.out.grown_box HN.out (by decide) HG.out); have LB_X1 := BELo.out.2; replace BEL := yk (BEL.out.grown HG.out (Nat.le_trans (Nat.le_add_right _ _) LB_X1)); have LL_X1 := yk LB_X1; clear LB_X1; have X1 := HX; clear HG HN HX)
 go_at_call 5
 refine (Q2.out _ (tab_below HT.out BEL.out.1)).mono ?_
 rintro en2 w2 ⟨v2, rfl, hr, hb⟩
 replace BEL := yk (BEL.out.next hb)
 replace X1 := yk (yb X1.out hb)
 replace P1 := yk (P1.out.below hb)
 have P2 := yk hr
 obtain ⟨b2, A2, n2, c2, x2, rfl⟩ := hr.ex
 clear hr hb
 have BELo := BEL
 go_wp2_with (replace BEL := yk ((BEL.out.alloc (.cells #[.bool false, .slice none 0 0, .int .i64 0] 27)).less (j := 0) (by omega)); have HN := yk (blk_new w2 (.cells #[.bool false, .slice none 0 0, .int .i64 0] 27)); have L_X1 := lt_blk X1.out; replace X1 := yk (blk_alloc X1.out (.cells #[.bool false, .slice none 0 0, .int .i64 0] 27)); replace P1 := yk (P1.out.below (below_alloc yr (.cells #[.bool false, .slice none 0 0, .int .i64 0] 27))); replace P2 := yk (P2.out.below (below_alloc yr (.cells #[.bool false, .slice none 0 0, .int .i64 0] 27))); ((with_reducible refine gate_store (p := 4) rfl ?_); go_must (refine sdy 4 (.tmp 20) rfl rfl rfl rfl rfl HN.out rfl ?_; intro wb HX HG)); replace P1 := yk (P1.out.grown_box HN.out (by decide) HG.out); replace P2 := yk (P2.out.grown_box HN.out (by decide) HG.out); have LB_X2 := BELo.out.2; replace BEL := yk (BEL.out.grown HG.out (Nat.le_trans (Nat.le_add_right _ _) LB_X2)); replace X1 := yk (blk_grown X1.out HG.out (Nat.ne_of_lt L_X1)); have NE_X1_X2 := yk (Nat.ne_of_lt L_X1); clear L_X1; have LL_X2 := yk LB_X2; clear LB_X2; have X2 := HX; clear HG HN HX)
 go_at_call 5
 refine (Q3.out _ (tab_below HT.out BEL.out.1)).mono ?_
 rintro en3 w3 ⟨v3, rfl, hr, hb⟩
 replace BEL := yk (BEL.out.next hb)
 replace X1 := yk (yb X1.out hb)
 replace X2 := yk (yb X2.out hb)
 replace P1 := yk (P1.out.below hb)
 replace P2 := yk (P2.out.below hb)
 have P3 := yk hr
 obtain ⟨b3, A3, n3, c3, x3, rfl⟩ := hr.ex
 clear hr hb
 have BELo := BEL
 go_wp2_with (replace BEL := yk ((BEL.out.alloc (.cells #[.bool false, .slice none 0 0, .int .i64 0] 27)).less (j := 0) (by omega)); have HN := yk (blk_new w3 (.cells #[.bool false, .slice none 0 0, .int .i64 0] 27)); have L_X1 := lt_blk X1.out; replace X1 := yk (blk_alloc X1.out (.cells #[.bool false, .slice none 0 0, .int .i64 0] 27)); have L_X2 := lt_blk X2.out; replace X2 := yk (blk_alloc X2.out (.cells #[.bool false, .slice none 0 0, .int .i64 0] 27)); replace P1 := yk (P1.out.below (below_alloc yr (.cells #[.bool false, .slice none 0 0, .int .i64 0] 27))); replace P2 := yk (P2.out.below (below_alloc yr (.cells #[.bool false, .slice none 0 0, .int .i64 0] 27))); replace P3 := yk (P3.out.below (below_alloc yr (.cells #[.bool false, .slice none 0 0, .int .i64 0] 27))); ((with_reducible refine gate_store (p := 7) rfl ?_); go_must (refine sdy 7 (.tmp 25) rfl rfl rfl rfl rfl HN.out rfl ?_; intro wb HX HG)); replace P1 := yk (P1.out.grown_box HN.out (by decide) HG.out); replace P2 := yk (P2.out.grown_box HN.out (by decide) HG.out); replace P3 := yk (P3.out.grown_box HN.out (by decide) HG.out); have LB_X3 := BELo.out.2; replace BEL := yk (BEL.out.grown HG.out (Nat.le_trans (Nat.le_add_right _ _) LB_X3)); replace X1 := yk (blk_grown X1.out HG.out (Nat.ne_of_lt L_X1)); replace X2 := yk (blk_grown X2.out HG.out (Nat.ne_of_lt L_X2)); have NE_X1_X3 := yk (Nat.ne_of_lt L_X1); have NE_X2_X3 := yk (Nat.ne_of_lt L_X2); clear L_X1; clear L_X2; have LL_X3 := yk LB_X3; clear LB_X3; have X3 := HX; clear HG HN HX)
 go_at_call 15
 refine (Q4.out _ (tab_below HT.out BEL.out.1)).mono ?_
 rintro en4 w4 ⟨v4, rfl, hr, hb⟩
 replace BEL := yk (BEL.out.next hb)
 replace X1 := yk (yb X1.out hb)
 replace X2 := yk (yb X2.out hb)
 replace X3 := yk (yb X3.out hb)
 replace P1 := yk (P1.out.below hb)
 replace P2 := yk (P2.out.below hb)
 replace P3 := yk (P3.out.below hb)
 have P4 := yk hr
 obtain ⟨b4, A4, n4, c4, x4, rfl⟩ := hr.ex
 clear hr hb
 have BELo := BEL
 go_wp2_with (replace BEL := yk ((BEL.out.alloc (.cells #[.bool false, .slice none 0 0, .int .i64 0] 27)).less (j := 0) (by omega)); have HN := yk (blk_new w4 (.cells #[.bool false, .slice none 0 0, .int .i64 0] 27)); have L_X1 := lt_blk X1.out; replace X1 := yk (blk_alloc X1.out (.cells #[.bool false, .slice none 0 0, .int .i64 0] 27)); have L_X2 := lt_blk X2.out; replace X2 := yk (blk_alloc X2.out (.cells #[.bool false, .slice none 0 0, .int .i64 0] 27)); have L_X3 := lt_blk X3.out; replace X3 := yk (blk_alloc X3.out (.cells #[.bool false, .slice none 0 0, .int .i64 0] 27)); replace P1 := yk (P1.out.below (below_alloc yr (.cells #[.bool false, .slice none 0 0, .int .i64 0] 27))); replace P2 := yk (P2.out.below (below_alloc yr (.cells #[.bool false, .slice none 0 0, .int .i64 0] 27))); replace P3 := yk (P3.out.below (below_alloc yr (.cells #[.bool false, .slice none 0 0, .int .i64 0] 27))); replace P4 := yk (P4.out.below (below_alloc yr (.cells #[.bool false, .slice none 0 0, .int .i64 0] 27))); ((with_reducible refine gate_store (p := 10) rfl ?_); go_must (refine sdy 10 (.tmp 30) rfl rfl rfl rfl rfl HN.out rfl ?_; intro wb HX HG)); replace P1 := yk (P1.out.grown_box HN.out (by decide) HG.out); replace P2 := yk (P2.out.grown_box HN.out (by decide) HG.out); replace P3 := yk (P3.out.grown_box HN.out (by decide) HG.out); replace P4 := yk (P4.out.grown_box HN.out (by decide) HG.out); have LB_X4 := BELo.out.2; replace BEL := yk (BEL.out.grown HG.out (Nat.le_trans (Nat.le_add_right _ _) LB_X4)); replace X1 := yk (blk_grown X1.out HG.out (Nat.ne_of_lt L_X1)); replace X2 := yk (blk_grown X2.out HG.out (Nat.ne_of_lt L_X2)); replace X3 := yk (blk_grown X3.out HG.out (Nat.ne_of_lt L_X3)); have NE_X1_X4 := yk (Nat.ne_of_lt L_X1); have NE_X2_X4 := yk (Nat.ne_of_lt L_X2); have NE_X3_X4 := yk (Nat.ne_of_lt L_X3); clear L_X1; clear L_X2; clear L_X3; have LL_X4 := yk LB_X4; clear LB_X4; have X4 := HX; clear HG HN HX)
 obtain ⟨ws, hws⟩ : ∃ ws : World, ws = wb := ⟨_, rfl⟩
 obtain ⟨TM, hTM⟩ : ∃ T : List (Option Value), T = [some (.bool true), some (.bool true), some (.int .i64 0), some (.bool true), some (.bool true), some (.bool true), some (.agg #[.bool b1, .slice A1 n1 c1, .int .i64 x1]), none, none, some (.bool true), some (.bool true), some (.bool true), some (.bool true), some (.bool true), some (.int .i64 0), some (.bool true), some (.bool true), some (.bool true), some (.agg #[.bool b2, .slice A2 n2 c2, .int .i64 x2]), none, none, some (.bool true), some (.bool true), some (.int .i64 5), some (.bool true), some (.bool true), some (.bool true), some (.bool true), some (.bool true), some (.bool true), some (.int .i64 0), some (.bool true), some (.bool true), some (.bool true), some (.agg #[.bool b4, .slice A4 n4 c4, .int .i64 x4]), none, none, none, some (.bool true), some (.bool true), none, some (.bool true), some (.bool true)] := ⟨_, rfl⟩
 obtain ⟨GM, hGM⟩ : ∃ G : (Nat → Prop) → (Nat → Value) → World → Prop, G = fun L v W => BelN w 0 W ∧ W.heap[w1.heap.size]? = some (.cells #[.bool b1, .slice A1 n1 c1, .int .i64 x1] 27 (0, 0)) ∧ W.heap[w2.heap.size]? = some (.cells #[.bool b2, .slice A2 n2 c2, .int .i64 x2] 27 (0, 0)) ∧ W.heap[w4.heap.size]? = some (.cells #[.bool b4, .slice A4 n4 c4, .int .i64 x4] 27 (0, 0)) ∧ PDy W 0 (.agg #[.bool b1, .slice A1 n1 c1, .int .i64 x1]) 3 0 ∧ PDy W 0 (.agg #[.bool b2, .slice A2 n2 c2, .int .i64 x2]) 1 0 ∧ PDy W 0 (.agg #[.bool b4, .slice A4 n4 c4, .int .i64 x4]) 3 (-2) ∧ (∀ j c, L j → TM[j]? = some (some c) → v j = c) ∧ (L 7 → CDy W (v 7) 3 0) ∧ (L 8 → (v 8) = .bool true) ∧ (L 19 → CDy W (v 19) 1 0) ∧ (L 20 → (v 20) = .bool true) ∧ (L 35 → ∃ g, (v 35) = .slice (some ⟨g, 0, none⟩) 1 1 ∧ W.heap[g]? = some (.cells #[.int .u64 3] 23 (0, 0)) ∧ kU.C W (some ⟨g, 0, none⟩) 1 [3]) ∧ (L 36 → CDy W (v 36) 3 (-2)) ∧ (L 37 → (v 37) = .bool true) ∧ (L 40 → (v 40) = .bool true) := ⟨_, rfl⟩
 refine wp_region_slotsV [33, 34, 35, 36, 37, 38, 39, 40, 41, 42, 43, 44, 45, 46, 47, 48, 49, 50, 51, 52, 53, 54, 55, 56, 57, 58, 59, 60, 61, 62, 63, 64, 65, 66, 67, 68, 69, 70, 71, 72, 73, 74, 0] (by kernel_rfl) (by kernel_rfl) (G := GM) ?h0M ?hstepM ?hendM
 case h0M =>
  intro v; rw [hGM]
  exact ⟨BEL.out.next (below_drew yr), blk_drew X1.out, blk_drew X2.out, blk_drew X4.out, (P1.out.below (below_drew yr)).lower (Nat.zero_le _), (P2.out.below (below_drew yr)).lower (Nat.zero_le _), (P4.out.below (below_drew yr)).lower (Nat.zero_le _), fun _ _ h => h.elim, fun h => h.elim, fun h => h.elim, fun h => h.elim, fun h => h.elim, fun h => h.elim, fun h => h.elim, fun h => h.elim, fun h => h.elim⟩
 case hstepM =>
  intro k o ho v W L hGv hnk haft hcl K hK
  rw [hGM] at hGv
  obtain ⟨hB, hb0, hb1, hb2, hk0, hk1, hk2, fT, f7, f8, f19, f20, f35, f36, f37, f40⟩ := hGv
  rcases k with _ | _ | _ | _ | _ | _ | _ | _ | _ | _ | _ | _ | _ | _ | _ | _ | _ | _ | _ | _ | _ | _ | _ | _ | _ | _ | _ | _ | _ | _ | _ | _ | _ | _ | _ | _ | _ | _ | _ | _ | _ | _ | _ | k
  all_goals first
   | (cases ho; done)
   | (obtain rfl := (Option.some.inj ho).symm
      clear ho
      simp only [setAll, List.setIfInBounds_toArray, List.set_cons_zero, List.set_cons_succ, List.set_nil, List.getElem_toArray, List.getElem_cons_zero, List.getElem_cons_succ, Nat.reduceAdd] at haft hK ⊢)
  ·
   rw [if_pos (by rfl)]
   have hb := yw W
   have key := hK.out (.bool true) W (by rw [hGM]; exact ⟨hB.next hb, yb hb0 hb, yb hb1 hb, yb hb2 hb, hk0.below hb, hk1.below hb, hk2.below hb, tabs_step fT (fun c h => by rw [hTM] at h; exact yo h), (fun h => by rw [upd_ne v _ (by decide)]; exact (f7 (yx h)).below hb), (kV f8), (fun h => by rw [upd_ne v _ (by decide)]; exact (f19 (yx h)).below hb), (kV f20), (fun h0 => by rw [upd_ne v _ (by decide)]; have h := f35 (yx h0); exact (let ⟨g, a1, a2, a3⟩ := h; ⟨g, a1, yb a2 hb, Kd.C_below a3 hb⟩)), (fun h => by rw [upd_ne v _ (by decide)]; exact (f36 (yx h)).below hb), (kV f37), (kV f40)⟩)
   clear hb0 hb1 hb2 hk0 hk1 hk2 fT f7 f8 f19 f20 f35 f36 f37 f40 hK hb
   go_simp
   simpa [upd] using key
  ·
   have d0 := fT 0 _ (haft ⟨0, .data⟩ (by simp) rfl) (by rw [hTM]; rfl)
   rw [if_pos (by rfl)]
   have hb := yw W
   have key := hK.out (.bool true) W (by rw [hGM]; exact ⟨hB.next hb, yb hb0 hb, yb hb1 hb, yb hb2 hb, hk0.below hb, hk1.below hb, hk2.below hb, tabs_step fT (fun c h => by rw [hTM] at h; exact yo h), (fun h => by rw [upd_ne v _ (by decide)]; exact (f7 (yx h)).below hb), (kV f8), (fun h => by rw [upd_ne v _ (by decide)]; exact (f19 (yx h)).below hb), (kV f20), (fun h0 => by rw [upd_ne v _ (by decide)]; have h := f35 (yx h0); exact (let ⟨g, a1, a2, a3⟩ := h; ⟨g, a1, yb a2 hb, Kd.C_below a3 hb⟩)), (fun h => by rw [upd_ne v _ (by decide)]; exact (f36 (yx h)).below hb), (kV f37), (kV f40)⟩)
   clear hb0 hb1 hb2 hk0 hk1 hk2 fT f7 f8 f19 f20 f35 f36 f37 f40 hK hb
   go_simp
   simpa [upd, d0] using key
  ·
   have dg := fT 1 _ (haft ⟨1, .guard⟩ (by simp) rfl) (by rw [hTM]; rfl)
   rw [if_pos (by simp [Region.wanted, yielded, dg])]
   have hb := yw W
   have key := hK.out (.int .i64 0) W (by rw [hGM]; exact ⟨hB.next hb, yb hb0 hb, yb hb1 hb, yb hb2 hb, hk0.below hb, hk1.below hb, hk2.below hb, tabs_step fT (fun c h => by rw [hTM] at h; exact yo h), (fun h => by rw [upd_ne v _ (by decide)]; exact (f7 (yx h)).below hb), (kV f8), (fun h => by rw [upd_ne v _ (by decide)]; exact (f19 (yx h)).below hb), (kV f20), (fun h0 => by rw [upd_ne v _ (by decide)]; have h := f35 (yx h0); exact (let ⟨g, a1, a2, a3⟩ := h; ⟨g, a1, yb a2 hb, Kd.C_below a3 hb⟩)), (fun h => by rw [upd_ne v _ (by decide)]; exact (f36 (yx h)).below hb), (kV f37), (kV f40)⟩)
   clear hb0 hb1 hb2 hk0 hk1 hk2 fT f7 f8 f19 f20 f35 f36 f37 f40 hK hb
   go_simp
   simpa [upd, dg] using key
  ·
   have d2 := fT 2 _ (haft ⟨2, .data⟩ (by simp) rfl) (by rw [hTM]; rfl)
   have dg := fT 1 _ (haft ⟨1, .guard⟩ (by simp) rfl) (by rw [hTM]; rfl)
   rw [if_pos (by simp [Region.wanted, yielded, dg])]
   have hb := yw W
   have key := hK.out (.bool true) W (by rw [hGM]; exact ⟨hB.next hb, yb hb0 hb, yb hb1 hb, yb hb2 hb, hk0.below hb, hk1.below hb, hk2.below hb, tabs_step fT (fun c h => by rw [hTM] at h; exact yo h), (fun h => by rw [upd_ne v _ (by decide)]; exact (f7 (yx h)).below hb), (kV f8), (fun h => by rw [upd_ne v _ (by decide)]; exact (f19 (yx h)).below hb), (kV f20), (fun h0 => by rw [upd_ne v _ (by decide)]; have h := f35 (yx h0); exact (let ⟨g, a1, a2, a3⟩ := h; ⟨g, a1, yb a2 hb, Kd.C_below a3 hb⟩)), (fun h => by rw [upd_ne v _ (by decide)]; exact (f36 (yx h)).below hb), (kV f37), (kV f40)⟩)
   clear hb0 hb1 hb2 hk0 hk1 hk2 fT f7 f8 f19 f20 f35 f36 f37 f40 hK hb
   go_simp
   simpa [upd, d2, dg] using key
  ·
   have d1 := fT 1 _ (haft ⟨1, .data⟩ (by simp) rfl) (by rw [hTM]; rfl)
   have d3 := fT 3 _ (haft ⟨3, .data⟩ (by simp) rfl) (by rw [hTM]; rfl)
   rw [if_pos (by rfl)]
   have hb := yw W
   have key := hK.out (.bool true) W (by rw [hGM]; exact ⟨hB.next hb, yb hb0 hb, yb hb1 hb, yb hb2 hb, hk0.below hb, hk1.below hb, hk2.below hb, tabs_step fT (fun c h => by rw [hTM] at h; exact yo h), (fun h => by rw [upd_ne v _ (by decide)]; exact (f7 (yx h)).below hb), (kV f8), (fun h => by rw [upd_ne v _ (by decide)]; exact (f19 (yx h)).below hb), (kV f20), (fun h0 => by rw [upd_ne v _ (by decide)]; have h := f35 (yx h0); exact (let ⟨g, a1, a2, a3⟩ := h; ⟨g, a1, yb a2 hb, Kd.C_below a3 hb⟩)), (fun h => by rw [upd_ne v _ (by decide)]; exact (f36 (yx h)).below hb), (kV f37), (kV f40)⟩)
   clear hb0 hb1 hb2 hk0 hk1 hk2 fT f7 f8 f19 f20 f35 f36 f37 f40 hK hb
   go_simp
   simpa [upd, d1, d3] using key
  ·
   have d4 := fT 4 _ (haft ⟨4, .data⟩ (by simp) rfl) (by rw [hTM]; rfl)
   rw [if_pos (by rfl)]
   have hb := yw W
   have key := hK.out (.bool true) W (by rw [hGM]; exact ⟨hB.next hb, yb hb0 hb, yb hb1 hb, yb hb2 hb, hk0.below hb, hk1.below hb, hk2.below hb, tabs_step fT (fun c h => by rw [hTM] at h; exact yo h), (fun h => by rw [upd_ne v _ (by decide)]; exact (f7 (yx h)).below hb), (kV f8), (fun h => by rw [upd_ne v _ (by decide)]; exact (f19 (yx h)).below hb), (kV f20), (fun h0 => by rw [upd_ne v _ (by decide)]; have h := f35 (yx h0); exact (let ⟨g, a1, a2, a3⟩ := h; ⟨g, a1, yb a2 hb, Kd.C_below a3 hb⟩)), (fun h => by rw [upd_ne v _ (by decide)]; exact (f36 (yx h)).below hb), (kV f37), (kV f40)⟩)
   clear hb0 hb1 hb2 hk0 hk1 hk2 fT f7 f8 f19 f20 f35 f36 f37 f40 hK hb
   go_simp
   simpa [upd, d4] using key
  ·
   have dg := fT 5 _ (haft ⟨5, .guard⟩ (by simp) rfl) (by rw [hTM]; rfl)
   rw [if_pos (by simp [Region.wanted, yielded, dg])]
   have cc0 := (box_cell (v := .bool b1) hb0 0 rfl).1
   have cc1 := (box_cell (v := .slice A1 n1 c1) hb0 1 rfl).1
   have cc2 := (box_cell (v := .int .i64 x1) hb0 2 rfl).1
   have hb := yw W
   have key := hK.out (.agg #[.bool b1, .slice A1 n1 c1, .int .i64 x1]) W (by rw [hGM]; exact ⟨hB.next hb, yb hb0 hb, yb hb1 hb, yb hb2 hb, hk0.below hb, hk1.below hb, hk2.below hb, tabs_step fT (fun c h => by rw [hTM] at h; exact yo h), (fun h => by rw [upd_ne v _ (by decide)]; exact (f7 (yx h)).below hb), (kV f8), (fun h => by rw [upd_ne v _ (by decide)]; exact (f19 (yx h)).below hb), (kV f20), (fun h0 => by rw [upd_ne v _ (by decide)]; have h := f35 (yx h0); exact (let ⟨g, a1, a2, a3⟩ := h; ⟨g, a1, yb a2 hb, Kd.C_below a3 hb⟩)), (fun h => by rw [upd_ne v _ (by decide)]; exact (f36 (yx h)).below hb), (kV f37), (kV f40)⟩)
   clear hb0 hb1 hb2 hk0 hk1 hk2 fT f7 f8 f19 f20 f35 f36 f37 f40 hK hb
   go_simp
   simpa [upd, dg] using key
  ·
   have dg := fT 5 _ (haft ⟨5, .guard⟩ (by simp) rfl) (by rw [hTM]; rfl)
   rw [if_pos (by simp [Region.wanted, yielded, dg])]
   have HALL := yk (ya hK (ya hB (ya hb0 ( ya hb1 ( ya hb2 ( ya hk0 ( ya hk1 ( ya hk2 ( ya fT ( ya f7 ( ya f8 ( ya f19 ( ya f20 ( ya f35 ( ya f36 ( ya f37 ( ya f40 (True.intro))))))))))))))))))
   clear hK hb0 hb1 hb2 hk0 hk1 hk2 fT f7 f8 f19 f20 f35 f36 f37 f40
   go_simp
   go_at_call 21
   refine (dint_any 3 _ (by decide) (by decide)).mono ?_
   rintro en w4 ⟨v1, rfl, hr, hb⟩
   obtain ⟨hK, hB, hb0, hb1, hb2, hk0, hk1, hk2, fT, f7, f8, f19, f20, f35, f36, f37, f40, _⟩ := HALL.out
   have key := hK.out (v1) w4 (by rw [hGM]; exact ⟨hB.next hb, yb hb0 hb, yb hb1 hb, yb hb2 hb, hk0.below hb, hk1.below hb, hk2.below hb, tabs_step fT (fun c h => by rw [hTM] at h; cases h), fun _ => by rw [upd_eq]; exact hr.c, (kV f8), (fun h => by rw [upd_ne v _ (by decide)]; exact (f19 (yx h)).below hb), (kV f20), (fun h0 => by rw [upd_ne v _ (by decide)]; have h := f35 (yx h0); exact (let ⟨g, a1, a2, a3⟩ := h; ⟨g, a1, yb a2 hb, Kd.C_below a3 hb⟩)), (fun h => by rw [upd_ne v _ (by decide)]; exact (f36 (yx h)).below hb), (kV f37), (kV f40)⟩)
   clear hb0 hb1 hb2 hk0 hk1 hk2 fT f7 f8 f19 f20 f35 f36 f37 f40 hK HALL
   simpa [upd, dg] using key
  ·
   have d6 := fT 6 _ (haft ⟨6, .data⟩ (by simp) rfl) (by rw [hTM]; rfl)
   have d7 := f7 (haft ⟨7, .data⟩ (by simp) rfl)
   have dg := fT 5 _ (haft ⟨5, .guard⟩ (by simp) rfl) (by rw [hTM]; rfl)
   rw [if_pos (by simp [Region.wanted, yielded, dg])]
   have K1 := hk0
   have HALL := yk (ya hK (ya hB (ya hb0 ( ya hb1 ( ya hb2 ( ya hk0 ( ya hk1 ( ya hk2 ( ya fT ( ya f7 ( ya f8 ( ya f19 ( ya f20 ( ya f35 ( ya f36 ( ya f37 ( ya f40 (True.intro))))))))))))))))))
   clear hK hb0 hb1 hb2 hk0 hk1 hk2 fT f7 f8 f19 f20 f35 f36 f37 f40
   go_simp
   go_at_call 8
   refine (same_self K1.c d7 (Ok.of 2 (by decide) (by decide) (by decide) (by decide))).mono ?_
   rintro en w4 ⟨rfl, hb⟩
   obtain ⟨hK, hB, hb0, hb1, hb2, hk0, hk1, hk2, fT, f7, f8, f19, f20, f35, f36, f37, f40, _⟩ := HALL.out
   have key := hK.out (.bool true) w4 (by rw [hGM]; exact ⟨hB.next hb, yb hb0 hb, yb hb1 hb, yb hb2 hb, hk0.below hb, hk1.below hb, hk2.below hb, tabs_step fT (fun c h => by rw [hTM] at h; cases h), (fun h => by rw [upd_ne v _ (by decide)]; exact (f7 (yx h)).below hb), yu, (fun h => by rw [upd_ne v _ (by decide)]; exact (f19 (yx h)).below hb), (kV f20), (fun h0 => by rw [upd_ne v _ (by decide)]; have h := f35 (yx h0); exact (let ⟨g, a1, a2, a3⟩ := h; ⟨g, a1, yb a2 hb, Kd.C_below a3 hb⟩)), (fun h => by rw [upd_ne v _ (by decide)]; exact (f36 (yx h)).below hb), (kV f37), (kV f40)⟩)
   clear hb0 hb1 hb2 hk0 hk1 hk2 fT f7 f8 f19 f20 f35 f36 f37 f40 hK HALL
   simpa [upd, d6, dg] using key
  ·
   have d5 := fT 5 _ (haft ⟨5, .data⟩ (by simp) rfl) (by rw [hTM]; rfl)
   have d8 := f8 (haft ⟨8, .data⟩ (by simp) rfl)
   rw [if_pos (by rfl)]
   have hb := yw W
   have key := hK.out (.bool true) W (by rw [hGM]; exact ⟨hB.next hb, yb hb0 hb, yb hb1 hb, yb hb2 hb, hk0.below hb, hk1.below hb, hk2.below hb, tabs_step fT (fun c h => by rw [hTM] at h; exact yo h), (fun h => by rw [upd_ne v _ (by decide)]; exact (f7 (yx h)).below hb), (kV f8), (fun h => by rw [upd_ne v _ (by decide)]; exact (f19 (yx h)).below hb), (kV f20), (fun h0 => by rw [upd_ne v _ (by decide)]; have h := f35 (yx h0); exact (let ⟨g, a1, a2, a3⟩ := h; ⟨g, a1, yb a2 hb, Kd.C_below a3 hb⟩)), (fun h => by rw [upd_ne v _ (by decide)]; exact (f36 (yx h)).below hb), (kV f37), (kV f40)⟩)
   clear hb0 hb1 hb2 hk0 hk1 hk2 fT f7 f8 f19 f20 f35 f36 f37 f40 hK hb
   go_simp
   simpa [upd, d5, d8] using key
  ·
   have d9 := fT 9 _ (haft ⟨9, .data⟩ (by simp) rfl) (by rw [hTM]; rfl)
   rw [if_pos (by rfl)]
   have hb := yw W
   have key := hK.out (.bool true) W (by rw [hGM]; exact ⟨hB.next hb, yb hb0 hb, yb hb1 hb, yb hb2 hb, hk0.below hb, hk1.below hb, hk2.below hb, tabs_step fT (fun c h => by rw [hTM] at h; exact yo h), (fun h => by rw [upd_ne v _ (by decide)]; exact (f7 (yx h)).below hb), (kV f8), (fun h => by rw [upd_ne v _ (by decide)]; exact (f19 (yx h)).below hb), (kV f20), (fun h0 => by rw [upd_ne v _ (by decide)]; have h := f35 (yx h0); exact (let ⟨g, a1, a2, a3⟩ := h; ⟨g, a1, yb a2 hb, Kd.C_below a3 hb⟩)), (fun h => by rw [upd_ne v _ (by decide)]; exact (f36 (yx h)).below hb), (kV f37), (kV f40)⟩)
   clear hb0 hb1 hb2 hk0 hk1 hk2 fT f7 f8 f19 f20 f35 f36 f37 f40 hK hb
   go_simp
   simpa [upd, d9] using key
  ·
   have dg := fT 10 _ (haft ⟨10, .guard⟩ (by simp) rfl) (by rw [hTM]; rfl)
   rw [if_pos (by simp [Region.wanted, yielded, dg])]
   have hb := yw W
   have key := hK.out (.bool true) W (by rw [hGM]; exact ⟨hB.next hb, yb hb0 hb, yb hb1 hb, yb hb2 hb, hk0.below hb, hk1.below hb, hk2.below hb, tabs_step fT (fun c h => by rw [hTM] at h; exact yo h), (fun h => by rw [upd_ne v _ (by decide)]; exact (f7 (yx h)).below hb), (kV f8), (fun h => by rw [upd_ne v _ (by decide)]; exact (f19 (yx h)).below hb), (kV f20), (fun h0 => by rw [upd_ne v _ (by decide)]; have h := f35 (yx h0); exact (let ⟨g, a1, a2, a3⟩ := h; ⟨g, a1, yb a2 hb, Kd.C_below a3 hb⟩)), (fun h => by rw [upd_ne v _ (by decide)]; exact (f36 (yx h)).below hb), (kV f37), (kV f40)⟩)
   clear hb0 hb1 hb2 hk0 hk1 hk2 fT f7 f8 f19 f20 f35 f36 f37 f40 hK hb
   go_simp
   simpa [upd, dg] using key
  ·
   have d10 := fT 10 _ (haft ⟨10, .data⟩ (by simp) rfl) (by rw [hTM]; rfl)
   have d11 := fT 11 _ (haft ⟨11, .data⟩ (by simp) rfl) (by rw [hTM]; rfl)
   rw [if_pos (by rfl)]
   have hb := yw W
   have key := hK.out (.bool true) W (by rw [hGM]; exact ⟨hB.next hb, yb hb0 hb, yb hb1 hb, yb hb2 hb, hk0.below hb, hk1.below hb, hk2.below hb, tabs_step fT (fun c h => by rw [hTM] at h; exact yo h), (fun h => by rw [upd_ne v _ (by decide)]; exact (f7 (yx h)).below hb), (kV f8), (fun h => by rw [upd_ne v _ (by decide)]; exact (f19 (yx h)).below hb), (kV f20), (fun h0 => by rw [upd_ne v _ (by decide)]; have h := f35 (yx h0); exact (let ⟨g, a1, a2, a3⟩ := h; ⟨g, a1, yb a2 hb, Kd.C_below a3 hb⟩)), (fun h => by rw [upd_ne v _ (by decide)]; exact (f36 (yx h)).below hb), (kV f37), (kV f40)⟩)
   clear hb0 hb1 hb2 hk0 hk1 hk2 fT f7 f8 f19 f20 f35 f36 f37 f40 hK hb
   go_simp
   simpa [upd, d10, d11] using key
  ·
   have d12 := fT 12 _ (haft ⟨12, .data⟩ (by simp) rfl) (by rw [hTM]; rfl)
   rw [if_pos (by rfl)]
   have hb := yw W
   have key := hK.out (.bool true) W (by rw [hGM]; exact ⟨hB.next hb, yb hb0 hb, yb hb1 hb, yb hb2 hb, hk0.below hb, hk1.below hb, hk2.below hb, tabs_step fT (fun c h => by rw [hTM] at h; exact yo h), (fun h => by rw [upd_ne v _ (by decide)]; exact (f7 (yx h)).below hb), (kV f8), (fun h => by rw [upd_ne v _ (by decide)]; exact (f19 (yx h)).below hb), (kV f20), (fun h0 => by rw [upd_ne v _ (by decide)]; have h := f35 (yx h0); exact (let ⟨g, a1, a2, a3⟩ := h; ⟨g, a1, yb a2 hb, Kd.C_below a3 hb⟩)), (fun h => by rw [upd_ne v _ (by decide)]; exact (f36 (yx h)).below hb), (kV f37), (kV f40)⟩)
   clear hb0 hb1 hb2 hk0 hk1 hk2 fT f7 f8 f19 f20 f35 f36 f37 f40 hK hb
   go_simp
   simpa [upd, d12] using key
  ·
   have dg := fT 13 _ (haft ⟨13, .guard⟩ (by simp) rfl) (by rw [hTM]; rfl)
   rw [if_pos (by simp [Region.wanted, yielded, dg])]
   have hb := yw W
   have key := hK.out (.int .i64 0) W (by rw [hGM]; exact ⟨hB.next hb, yb hb0 hb, yb hb1 hb, yb hb2 hb, hk0.below hb, hk1.below hb, hk2.below hb, tabs_step fT (fun c h => by rw [hTM] at h; exact yo h), (fun h => by rw [upd_ne v _ (by decide)]; exact (f7 (yx h)).below hb), (kV f8), (fun h => by rw [upd_ne v _ (by decide)]; exact (f19 (yx h)).below hb), (kV f20), (fun h0 => by rw [upd_ne v _ (by decide)]; have h := f35 (yx h0); exact (let ⟨g, a1, a2, a3⟩ := h; ⟨g, a1, yb a2 hb, Kd.C_below a3 hb⟩)), (fun h => by rw [upd_ne v _ (by decide)]; exact (f36 (yx h)).below hb), (kV f37), (kV f40)⟩)
   clear hb0 hb1 hb2 hk0 hk1 hk2 fT f7 f8 f19 f20 f35 f36 f37 f40 hK hb
   go_simp
   simpa [upd, dg] using key
  ·
   have d14 := fT 14 _ (haft ⟨14, .data⟩ (by simp) rfl) (by rw [hTM]; rfl)
   have dg := fT 13 _ (haft ⟨13, .guard⟩ (by simp) rfl) (by rw [hTM]; rfl)
   rw [if_pos (by simp [Region.wanted, yielded, dg])]
   have hb := yw W
   have key := hK.out (.bool true) W (by rw [hGM]; exact ⟨hB.next hb, yb hb0 hb, yb hb1 hb, yb hb2 hb, hk0.below hb, hk1.below hb, hk2.below hb, tabs_step fT (fun c h => by rw [hTM] at h; exact yo h), (fun h => by rw [upd_ne v _ (by decide)]; exact (f7 (yx h)).below hb), (kV f8), (fun h => by rw [upd_ne v _ (by decide)]; exact (f19 (yx h)).below hb), (kV f20), (fun h0 => by rw [upd_ne v _ (by decide)]; have h := f35 (yx h0); exact (let ⟨g, a1, a2, a3⟩ := h; ⟨g, a1, yb a2 hb, Kd.C_below a3 hb⟩)), (fun h => by rw [upd_ne v _ (by decide)]; exact (f36 (yx h)).below hb), (kV f37), (kV f40)⟩)
   clear hb0 hb1 hb2 hk0 hk1 hk2 fT f7 f8 f19 f20 f35 f36 f37 f40 hK hb
   go_simp
   simpa [upd, d14, dg] using key
  ·
   have d13 := fT 13 _ (haft ⟨13, .data⟩ (by simp) rfl) (by rw [hTM]; rfl)
   have d15 := fT 15 _ (haft ⟨15, .data⟩ (by simp) rfl) (by rw [hTM]; rfl)
   rw [if_pos (by rfl)]
   have hb := yw W
   have key := hK.out (.bool true) W (by rw [hGM]; exact ⟨hB.next hb, yb hb0 hb, yb hb1 hb, yb hb2 hb, hk0.below hb, hk1.below hb, hk2.below hb, tabs_step fT (fun c h => by rw [hTM] at h; exact yo h), (fun h => by rw [upd_ne v _ (by decide)]; exact (f7 (yx h)).below hb), (kV f8), (fun h => by rw [upd_ne v _ (by decide)]; exact (f19 (yx h)).below hb), (kV f20), (fun h0 => by rw [upd_ne v _ (by decide)]; have h := f35 (yx h0); exact (let ⟨g, a1, a2, a3⟩ := h; ⟨g, a1, yb a2 hb, Kd.C_below a3 hb⟩)), (fun h => by rw [upd_ne v _ (by decide)]; exact (f36 (yx h)).below hb), (kV f37), (kV f40)⟩)
   clear hb0 hb1 hb2 hk0 hk1 hk2 fT f7 f8 f19 f20 f35 f36 f37 f40 hK hb
   go_simp
   simpa [upd, d13, d15] using key
  ·
   have d16 := fT 16 _ (haft ⟨16, .data⟩ (by simp) rfl) (by rw [hTM]; rfl)
   rw [if_pos (by rfl)]
   have hb := yw W
   have key := hK.out (.bool true) W (by rw [hGM]; exact ⟨hB.next hb, yb hb0 hb, yb hb1 hb, yb hb2 hb, hk0.below hb, hk1.below hb, hk2.below hb, tabs_step fT (fun c h => by rw [hTM] at h; exact yo h), (fun h => by rw [upd_ne v _ (by decide)]; exact (f7 (yx h)).below hb), (kV f8), (fun h => by rw [upd_ne v _ (by decide)]; exact (f19 (yx h)).below hb), (kV f20), (fun h0 => by rw [upd_ne v _ (by decide)]; have h := f35 (yx h0); exact (let ⟨g, a1, a2, a3⟩ := h; ⟨g, a1, yb a2 hb, Kd.C_below a3 hb⟩)), (fun h => by rw [upd_ne v _ (by decide)]; exact (f36 (yx h)).below hb), (kV f37), (kV f40)⟩)
   clear hb0 hb1 hb2 hk0 hk1 hk2 fT f7 f8 f19 f20 f35 f36 f37 f40 hK hb
   go_simp
   simpa [upd, d16] using key
  ·
   have dg := fT 17 _ (haft ⟨17, .guard⟩ (by simp) rfl) (by rw [hTM]; rfl)
   rw [if_pos (by simp [Region.wanted, yielded, dg])]
   have cc0 := (box_cell (v := .bool b2) hb1 0 rfl).1
   have cc1 := (box_cell (v := .slice A2 n2 c2) hb1 1 rfl).1
   have cc2 := (box_cell (v := .int .i64 x2) hb1 2 rfl).1
   have hb := yw W
   have key := hK.out (.agg #[.bool b2, .slice A2 n2 c2, .int .i64 x2]) W (by rw [hGM]; exact ⟨hB.next hb, yb hb0 hb, yb hb1 hb, yb hb2 hb, hk0.below hb, hk1.below hb, hk2.below hb, tabs_step fT (fun c h => by rw [hTM] at h; exact yo h), (fun h => by rw [upd_ne v _ (by decide)]; exact (f7 (yx h)).below hb), (kV f8), (fun h => by rw [upd_ne v _ (by decide)]; exact (f19 (yx h)).below hb), (kV f20), (fun h0 => by rw [upd_ne v _ (by decide)]; have h := f35 (yx h0); exact (let ⟨g, a1, a2, a3⟩ := h; ⟨g, a1, yb a2 hb, Kd.C_below a3 hb⟩)), (fun h => by rw [upd_ne v _ (by decide)]; exact (f36 (yx h)).below hb), (kV f37), (kV f40)⟩)
   clear hb0 hb1 hb2 hk0 hk1 hk2 fT f7 f8 f19 f20 f35 f36 f37 f40 hK hb
   go_simp
   simpa [upd, dg] using key
  ·
   have dg := fT 17 _ (haft ⟨17, .guard⟩ (by simp) rfl) (by rw [hTM]; rfl)
   rw [if_pos (by simp [Region.wanted, yielded, dg])]
   have HALL := yk (ya hK (ya hB (ya hb0 ( ya hb1 ( ya hb2 ( ya hk0 ( ya hk1 ( ya hk2 ( ya fT ( ya f7 ( ya f8 ( ya f19 ( ya f20 ( ya f35 ( ya f36 ( ya f37 ( ya f40 (True.intro))))))))))))))))))
   clear hK hb0 hb1 hb2 hk0 hk1 hk2 fT f7 f8 f19 f20 f35 f36 f37 f40
   go_simp
   go_at_call 21
   refine (dint_any 1 _ (by decide) (by decide)).mono ?_
   rintro en w4 ⟨v1, rfl, hr, hb⟩
   obtain ⟨hK, hB, hb0, hb1, hb2, hk0, hk1, hk2, fT, f7, f8, f19, f20, f35, f36, f37, f40, _⟩ := HALL.out
   have key := hK.out (v1) w4 (by rw [hGM]; exact ⟨hB.next hb, yb hb0 hb, yb hb1 hb, yb hb2 hb, hk0.below hb, hk1.below hb, hk2.below hb, tabs_step fT (fun c h => by rw [hTM] at h; cases h), (fun h => by rw [upd_ne v _ (by decide)]; exact (f7 (yx h)).below hb), (kV f8), fun _ => by rw [upd_eq]; exact hr.c, (kV f20), (fun h0 => by rw [upd_ne v _ (by decide)]; have h := f35 (yx h0); exact (let ⟨g, a1, a2, a3⟩ := h; ⟨g, a1, yb a2 hb, Kd.C_below a3 hb⟩)), (fun h => by rw [upd_ne v _ (by decide)]; exact (f36 (yx h)).below hb), (kV f37), (kV f40)⟩)
   clear hb0 hb1 hb2 hk0 hk1 hk2 fT f7 f8 f19 f20 f35 f36 f37 f40 hK HALL
   simpa [upd, dg] using key
  ·
   have d18 := fT 18 _ (haft ⟨18, .data⟩ (by simp) rfl) (by rw [hTM]; rfl)
   have d19 := f19 (haft ⟨19, .data⟩ (by simp) rfl)
   have dg := fT 17 _ (haft ⟨17, .guard⟩ (by simp) rfl) (by rw [hTM]; rfl)
   rw [if_pos (by simp [Region.wanted, yielded, dg])]
   have K2 := hk1
   have HALL := yk (ya hK (ya hB (ya hb0 ( ya hb1 ( ya hb2 ( ya hk0 ( ya hk1 ( ya hk2 ( ya fT ( ya f7 ( ya f8 ( ya f19 ( ya f20 ( ya f35 ( ya f36 ( ya f37 ( ya f40 (True.intro))))))))))))))))))
   clear hK hb0 hb1 hb2 hk0 hk1 hk2 fT f7 f8 f19 f20 f35 f36 f37 f40
   go_simp
   go_at_call 8
   refine (same_self K2.c d19 (Ok.of 2 (by decide) (by decide) (by decide) (by decide))).mono ?_
   rintro en w4 ⟨rfl, hb⟩
   obtain ⟨hK, hB, hb0, hb1, hb2, hk0, hk1, hk2, fT, f7, f8, f19, f20, f35, f36, f37, f40, _⟩ := HALL.out
   have key := hK.out (.bool true) w4 (by rw [hGM]; exact ⟨hB.next hb, yb hb0 hb, yb hb1 hb, yb hb2 hb, hk0.below hb, hk1.below hb, hk2.below hb, tabs_step fT (fun c h => by rw [hTM] at h; cases h), (fun h => by rw [upd_ne v _ (by decide)]; exact (f7 (yx h)).below hb), (kV f8), (fun h => by rw [upd_ne v _ (by decide)]; exact (f19 (yx h)).below hb), yu, (fun h0 => by rw [upd_ne v _ (by decide)]; have h := f35 (yx h0); exact (let ⟨g, a1, a2, a3⟩ := h; ⟨g, a1, yb a2 hb, Kd.C_below a3 hb⟩)), (fun h => by rw [upd_ne v _ (by decide)]; exact (f36 (yx h)).below hb), (kV f37), (kV f40)⟩)
   clear hb0 hb1 hb2 hk0 hk1 hk2 fT f7 f8 f19 f20 f35 f36 f37 f40 hK HALL
   simpa [upd, d18, dg] using key
  ·
   have d17 := fT 17 _ (haft ⟨17, .data⟩ (by simp) rfl) (by rw [hTM]; rfl)
   have d20 := f20 (haft ⟨20, .data⟩ (by simp) rfl)
   rw [if_pos (by rfl)]
   have hb := yw W
   have key := hK.out (.bool true) W (by rw [hGM]; exact ⟨hB.next hb, yb hb0 hb, yb hb1 hb, yb hb2 hb, hk0.below hb, hk1.below hb, hk2.below hb, tabs_step fT (fun c h => by rw [hTM] at h; exact yo h), (fun h => by rw [upd_ne v _ (by decide)]; exact (f7 (yx h)).below hb), (kV f8), (fun h => by rw [upd_ne v _ (by decide)]; exact (f19 (yx h)).below hb), (kV f20), (fun h0 => by rw [upd_ne v _ (by decide)]; have h := f35 (yx h0); exact (let ⟨g, a1, a2, a3⟩ := h; ⟨g, a1, yb a2 hb, Kd.C_below a3 hb⟩)), (fun h => by rw [upd_ne v _ (by decide)]; exact (f36 (yx h)).below hb), (kV f37), (kV f40)⟩)
   clear hb0 hb1 hb2 hk0 hk1 hk2 fT f7 f8 f19 f20 f35 f36 f37 f40 hK hb
   go_simp
   simpa [upd, d17, d20] using key
  ·
   have d21 := fT 21 _ (haft ⟨21, .data⟩ (by simp) rfl) (by rw [hTM]; rfl)
   rw [if_pos (by rfl)]
   have hb := yw W
   have key := hK.out (.bool true) W (by rw [hGM]; exact ⟨hB.next hb, yb hb0 hb, yb hb1 hb, yb hb2 hb, hk0.below hb, hk1.below hb, hk2.below hb, tabs_step fT (fun c h => by rw [hTM] at h; exact yo h), (fun h => by rw [upd_ne v _ (by decide)]; exact (f7 (yx h)).below hb), (kV f8), (fun h => by rw [upd_ne v _ (by decide)]; exact (f19 (yx h)).below hb), (kV f20), (fun h0 => by rw [upd_ne v _ (by decide)]; have h := f35 (yx h0); exact (let ⟨g, a1, a2, a3⟩ := h; ⟨g, a1, yb a2 hb, Kd.C_below a3 hb⟩)), (fun h => by rw [upd_ne v _ (by decide)]; exact (f36 (yx h)).below hb), (kV f37), (kV f40)⟩)
   clear hb0 hb1 hb2 hk0 hk1 hk2 fT f7 f8 f19 f20 f35 f36 f37 f40 hK hb
   go_simp
   simpa [upd, d21] using key
  ·
   have dg := fT 22 _ (haft ⟨22, .guard⟩ (by simp) rfl) (by rw [hTM]; rfl)
   rw [if_pos (by simp [Region.wanted, yielded, dg])]
   have hb := yw W
   have key := hK.out (.int .i64 5) W (by rw [hGM]; exact ⟨hB.next hb, yb hb0 hb, yb hb1 hb, yb hb2 hb, hk0.below hb, hk1.below hb, hk2.below hb, tabs_step fT (fun c h => by rw [hTM] at h; exact yo h), (fun h => by rw [upd_ne v _ (by decide)]; exact (f7 (yx h)).below hb), (kV f8), (fun h => by rw [upd_ne v _ (by decide)]; exact (f19 (yx h)).below hb), (kV f20), (fun h0 => by rw [upd_ne v _ (by decide)]; have h := f35 (yx h0); exact (let ⟨g, a1, a2, a3⟩ := h; ⟨g, a1, yb a2 hb, Kd.C_below a3 hb⟩)), (fun h => by rw [upd_ne v _ (by decide)]; exact (f36 (yx h)).below hb), (kV f37), (kV f40)⟩)
   clear hb0 hb1 hb2 hk0 hk1 hk2 fT f7 f8 f19 f20 f35 f36 f37 f40 hK hb
   go_simp
   simpa [upd, dg] using key
  ·
   have d23 := fT 23 _ (haft ⟨23, .data⟩ (by simp) rfl) (by rw [hTM]; rfl)
   have dg := fT 22 _ (haft ⟨22, .guard⟩ (by simp) rfl) (by rw [hTM]; rfl)
   rw [if_pos (by simp [Region.wanted, yielded, dg])]
   have hb := yw W
   have key := hK.out (.bool true) W (by rw [hGM]; exact ⟨hB.next hb, yb hb0 hb, yb hb1 hb, yb hb2 hb, hk0.below hb, hk1.below hb, hk2.below hb, tabs_step fT (fun c h => by rw [hTM] at h; exact yo h), (fun h => by rw [upd_ne v _ (by decide)]; exact (f7 (yx h)).below hb), (kV f8), (fun h => by rw [upd_ne v _ (by decide)]; exact (f19 (yx h)).below hb), (kV f20), (fun h0 => by rw [upd_ne v _ (by decide)]; have h := f35 (yx h0); exact (let ⟨g, a1, a2, a3⟩ := h; ⟨g, a1, yb a2 hb, Kd.C_below a3 hb⟩)), (fun h => by rw [upd_ne v _ (by decide)]; exact (f36 (yx h)).below hb), (kV f37), (kV f40)⟩)
   clear hb0 hb1 hb2 hk0 hk1 hk2 fT f7 f8 f19 f20 f35 f36 f37 f40 hK hb
   go_simp
   simpa [upd, d23, dg] using key
  ·
   have d22 := fT 22 _ (haft ⟨22, .data⟩ (by simp) rfl) (by rw [hTM]; rfl)
   have d24 := fT 24 _ (haft ⟨24, .data⟩ (by simp) rfl) (by rw [hTM]; rfl)
   rw [if_pos (by rfl)]
   have hb := yw W
   have key := hK.out (.bool true) W (by rw [hGM]; exact ⟨hB.next hb, yb hb0 hb, yb hb1 hb, yb hb2 hb, hk0.below hb, hk1.below hb, hk2.below hb, tabs_step fT (fun c h => by rw [hTM] at h; exact yo h), (fun h => by rw [upd_ne v _ (by decide)]; exact (f7 (yx h)).below hb), (kV f8), (fun h => by rw [upd_ne v _ (by decide)]; exact (f19 (yx h)).below hb), (kV f20), (fun h0 => by rw [upd_ne v _ (by decide)]; have h := f35 (yx h0); exact (let ⟨g, a1, a2, a3⟩ := h; ⟨g, a1, yb a2 hb, Kd.C_below a3 hb⟩)), (fun h => by rw [upd_ne v _ (by decide)]; exact (f36 (yx h)).below hb), (kV f37), (kV f40)⟩)
   clear hb0 hb1 hb2 hk0 hk1 hk2 fT f7 f8 f19 f20 f35 f36 f37 f40 hK hb
   go_simp
   simpa [upd, d22, d24] using key
  ·
   have d25 := fT 25 _ (haft ⟨25, .data⟩ (by simp) rfl) (by rw [hTM]; rfl)
   rw [if_pos (by rfl)]
   have hb := yw W
   have key := hK.out (.bool true) W (by rw [hGM]; exact ⟨hB.next hb, yb hb0 hb, yb hb1 hb, yb hb2 hb, hk0.below hb, hk1.below hb, hk2.below hb, tabs_step fT (fun c h => by rw [hTM] at h; exact yo h), (fun h => by rw [upd_ne v _ (by decide)]; exact (f7 (yx h)).below hb), (kV f8), (fun h => by rw [upd_ne v _ (by decide)]; exact (f19 (yx h)).below hb), (kV f20), (fun h0 => by rw [upd_ne v _ (by decide)]; have h := f35 (yx h0); exact (let ⟨g, a1, a2, a3⟩ := h; ⟨g, a1, yb a2 hb, Kd.C_below a3 hb⟩)), (fun h => by rw [upd_ne v _ (by decide)]; exact (f36 (yx h)).below hb), (kV f37), (kV f40)⟩)
   clear hb0 hb1 hb2 hk0 hk1 hk2 fT f7 f8 f19 f20 f35 f36 f37 f40 hK hb
   go_simp
   simpa [upd, d25] using key
  ·
   have dg := fT 26 _ (haft ⟨26, .guard⟩ (by simp) rfl) (by rw [hTM]; rfl)
   rw [if_pos (by simp [Region.wanted, yielded, dg])]
   have hb := yw W
   have key := hK.out (.bool true) W (by rw [hGM]; exact ⟨hB.next hb, yb hb0 hb, yb hb1 hb, yb hb2 hb, hk0.below hb, hk1.below hb, hk2.below hb, tabs_step fT (fun c h => by rw [hTM] at h; exact yo h), (fun h => by rw [upd_ne v _ (by decide)]; exact (f7 (yx h)).below hb), (kV f8), (fun h => by rw [upd_ne v _ (by decide)]; exact (f19 (yx h)).below hb), (kV f20), (fun h0 => by rw [upd_ne v _ (by decide)]; have h := f35 (yx h0); exact (let ⟨g, a1, a2, a3⟩ := h; ⟨g, a1, yb a2 hb, Kd.C_below a3 hb⟩)), (fun h => by rw [upd_ne v _ (by decide)]; exact (f36 (yx h)).below hb), (kV f37), (kV f40)⟩)
   clear hb0 hb1 hb2 hk0 hk1 hk2 fT f7 f8 f19 f20 f35 f36 f37 f40 hK hb
   go_simp
   simpa [upd, dg] using key
  ·
   have d26 := fT 26 _ (haft ⟨26, .data⟩ (by simp) rfl) (by rw [hTM]; rfl)
   have d27 := fT 27 _ (haft ⟨27, .data⟩ (by simp) rfl) (by rw [hTM]; rfl)
   rw [if_pos (by rfl)]
   have hb := yw W
   have key := hK.out (.bool true) W (by rw [hGM]; exact ⟨hB.next hb, yb hb0 hb, yb hb1 hb, yb hb2 hb, hk0.below hb, hk1.below hb, hk2.below hb, tabs_step fT (fun c h => by rw [hTM] at h; exact yo h), (fun h => by rw [upd_ne v _ (by decide)]; exact (f7 (yx h)).below hb), (kV f8), (fun h => by rw [upd_ne v _ (by decide)]; exact (f19 (yx h)).below hb), (kV f20), (fun h0 => by rw [upd_ne v _ (by decide)]; have h := f35 (yx h0); exact (let ⟨g, a1, a2, a3⟩ := h; ⟨g, a1, yb a2 hb, Kd.C_below a3 hb⟩)), (fun h => by rw [upd_ne v _ (by decide)]; exact (f36 (yx h)).below hb), (kV f37), (kV f40)⟩)
   clear hb0 hb1 hb2 hk0 hk1 hk2 fT f7 f8 f19 f20 f35 f36 f37 f40 hK hb
   go_simp
   simpa [upd, d26, d27] using key
  ·
   have d28 := fT 28 _ (haft ⟨28, .data⟩ (by simp) rfl) (by rw [hTM]; rfl)
   rw [if_pos (by rfl)]
   have hb := yw W
   have key := hK.out (.bool true) W (by rw [hGM]; exact ⟨hB.next hb, yb hb0 hb, yb hb1 hb, yb hb2 hb, hk0.below hb, hk1.below hb, hk2.below hb, tabs_step fT (fun c h => by rw [hTM] at h; exact yo h), (fun h => by rw [upd_ne v _ (by decide)]; exact (f7 (yx h)).below hb), (kV f8), (fun h => by rw [upd_ne v _ (by decide)]; exact (f19 (yx h)).below hb), (kV f20), (fun h0 => by rw [upd_ne v _ (by decide)]; have h := f35 (yx h0); exact (let ⟨g, a1, a2, a3⟩ := h; ⟨g, a1, yb a2 hb, Kd.C_below a3 hb⟩)), (fun h => by rw [upd_ne v _ (by decide)]; exact (f36 (yx h)).below hb), (kV f37), (kV f40)⟩)
   clear hb0 hb1 hb2 hk0 hk1 hk2 fT f7 f8 f19 f20 f35 f36 f37 f40 hK hb
   go_simp
   simpa [upd, d28] using key
  ·
   have dg := fT 29 _ (haft ⟨29, .guard⟩ (by simp) rfl) (by rw [hTM]; rfl)
   rw [if_pos (by simp [Region.wanted, yielded, dg])]
   have hb := yw W
   have key := hK.out (.int .i64 0) W (by rw [hGM]; exact ⟨hB.next hb, yb hb0 hb, yb hb1 hb, yb hb2 hb, hk0.below hb, hk1.below hb, hk2.below hb, tabs_step fT (fun c h => by rw [hTM] at h; exact yo h), (fun h => by rw [upd_ne v _ (by decide)]; exact (f7 (yx h)).below hb), (kV f8), (fun h => by rw [upd_ne v _ (by decide)]; exact (f19 (yx h)).below hb), (kV f20), (fun h0 => by rw [upd_ne v _ (by decide)]; have h := f35 (yx h0); exact (let ⟨g, a1, a2, a3⟩ := h; ⟨g, a1, yb a2 hb, Kd.C_below a3 hb⟩)), (fun h => by rw [upd_ne v _ (by decide)]; exact (f36 (yx h)).below hb), (kV f37), (kV f40)⟩)
   clear hb0 hb1 hb2 hk0 hk1 hk2 fT f7 f8 f19 f20 f35 f36 f37 f40 hK hb
   go_simp
   simpa [upd, dg] using key
  ·
   have d30 := fT 30 _ (haft ⟨30, .data⟩ (by simp) rfl) (by rw [hTM]; rfl)
   have dg := fT 29 _ (haft ⟨29, .guard⟩ (by simp) rfl) (by rw [hTM]; rfl)
   rw [if_pos (by simp [Region.wanted, yielded, dg])]
   have hb := yw W
   have key := hK.out (.bool true) W (by rw [hGM]; exact ⟨hB.next hb, yb hb0 hb, yb hb1 hb, yb hb2 hb, hk0.below hb, hk1.below hb, hk2.below hb, tabs_step fT (fun c h => by rw [hTM] at h; exact yo h), (fun h => by rw [upd_ne v _ (by decide)]; exact (f7 (yx h)).below hb), (kV f8), (fun h => by rw [upd_ne v _ (by decide)]; exact (f19 (yx h)).below hb), (kV f20), (fun h0 => by rw [upd_ne v _ (by decide)]; have h := f35 (yx h0); exact (let ⟨g, a1, a2, a3⟩ := h; ⟨g, a1, yb a2 hb, Kd.C_below a3 hb⟩)), (fun h => by rw [upd_ne v _ (by decide)]; exact (f36 (yx h)).below hb), (kV f37), (kV f40)⟩)
   clear hb0 hb1 hb2 hk0 hk1 hk2 fT f7 f8 f19 f20 f35 f36 f37 f40 hK hb
   go_simp
   simpa [upd, d30, dg] using key
  ·
   have d29 := fT 29 _ (haft ⟨29, .data⟩ (by simp) rfl) (by rw [hTM]; rfl)
   have d31 := fT 31 _ (haft ⟨31, .data⟩ (by simp) rfl) (by rw [hTM]; rfl)
   rw [if_pos (by rfl)]
   have hb := yw W
   have key := hK.out (.bool true) W (by rw [hGM]; exact ⟨hB.next hb, yb hb0 hb, yb hb1 hb, yb hb2 hb, hk0.below hb, hk1.below hb, hk2.below hb, tabs_step fT (fun c h => by rw [hTM] at h; exact yo h), (fun h => by rw [upd_ne v _ (by decide)]; exact (f7 (yx h)).below hb), (kV f8), (fun h => by rw [upd_ne v _ (by decide)]; exact (f19 (yx h)).below hb), (kV f20), (fun h0 => by rw [upd_ne v _ (by decide)]; have h := f35 (yx h0); exact (let ⟨g, a1, a2, a3⟩ := h; ⟨g, a1, yb a2 hb, Kd.C_below a3 hb⟩)), (fun h => by rw [upd_ne v _ (by decide)]; exact (f36 (yx h)).below hb), (kV f37), (kV f40)⟩)
   clear hb0 hb1 hb2 hk0 hk1 hk2 fT f7 f8 f19 f20 f35 f36 f37 f40 hK hb
   go_simp
   simpa [upd, d29, d31] using key
  ·
   have d32 := fT 32 _ (haft ⟨32, .data⟩ (by simp) rfl) (by rw [hTM]; rfl)
   rw [if_pos (by rfl)]
   have hb := yw W
   have key := hK.out (.bool true) W (by rw [hGM]; exact ⟨hB.next hb, yb hb0 hb, yb hb1 hb, yb hb2 hb, hk0.below hb, hk1.below hb, hk2.below hb, tabs_step fT (fun c h => by rw [hTM] at h; exact yo h), (fun h => by rw [upd_ne v _ (by decide)]; exact (f7 (yx h)).below hb), (kV f8), (fun h => by rw [upd_ne v _ (by decide)]; exact (f19 (yx h)).below hb), (kV f20), (fun h0 => by rw [upd_ne v _ (by decide)]; have h := f35 (yx h0); exact (let ⟨g, a1, a2, a3⟩ := h; ⟨g, a1, yb a2 hb, Kd.C_below a3 hb⟩)), (fun h => by rw [upd_ne v _ (by decide)]; exact (f36 (yx h)).below hb), (kV f37), (kV f40)⟩)
   clear hb0 hb1 hb2 hk0 hk1 hk2 fT f7 f8 f19 f20 f35 f36 f37 f40 hK hb
   go_simp
   simpa [upd, d32] using key
  ·
   have dg := fT 33 _ (haft ⟨33, .guard⟩ (by simp) rfl) (by rw [hTM]; rfl)
   rw [if_pos (by simp [Region.wanted, yielded, dg])]
   have cc0 := (box_cell (v := .bool b4) hb2 0 rfl).1
   have cc1 := (box_cell (v := .slice A4 n4 c4) hb2 1 rfl).1
   have cc2 := (box_cell (v := .int .i64 x4) hb2 2 rfl).1
   have hb := yw W
   have key := hK.out (.agg #[.bool b4, .slice A4 n4 c4, .int .i64 x4]) W (by rw [hGM]; exact ⟨hB.next hb, yb hb0 hb, yb hb1 hb, yb hb2 hb, hk0.below hb, hk1.below hb, hk2.below hb, tabs_step fT (fun c h => by rw [hTM] at h; exact yo h), (fun h => by rw [upd_ne v _ (by decide)]; exact (f7 (yx h)).below hb), (kV f8), (fun h => by rw [upd_ne v _ (by decide)]; exact (f19 (yx h)).below hb), (kV f20), (fun h0 => by rw [upd_ne v _ (by decide)]; have h := f35 (yx h0); exact (let ⟨g, a1, a2, a3⟩ := h; ⟨g, a1, yb a2 hb, Kd.C_below a3 hb⟩)), (fun h => by rw [upd_ne v _ (by decide)]; exact (f36 (yx h)).below hb), (kV f37), (kV f40)⟩)
   clear hb0 hb1 hb2 hk0 hk1 hk2 fT f7 f8 f19 f20 f35 f36 f37 f40 hK hb
   go_simp
   simpa [upd, dg] using key
  ·
   have dg := fT 33 _ (haft ⟨33, .guard⟩ (by simp) rfl) (by rw [hTM]; rfl)
   rw [if_pos (by simp [Region.wanted, yielded, dg])]
   have HALL := yk (ya hK (ya hB (ya hb0 ( ya hb1 ( ya hb2 ( ya hk0 ( ya hk1 ( ya hk2 ( ya fT ( ya f7 ( ya f8 ( ya f19 ( ya f20 ( ya f35 ( ya f36 ( ya f37 ( ya f40 (True.intro))))))))))))))))))
   clear hK hb0 hb1 hb2 hk0 hk1 hk2 fT f7 f8 f19 f20 f35 f36 f37 f40
   have hb := below_alloc (yw W) (.cells #[.int .u64 3] 23)
   go_simp
   obtain ⟨hK, hB, hb0, hb1, hb2, hk0, hk1, hk2, fT, f7, f8, f19, f20, f35, f36, f37, f40, _⟩ := HALL.out
   have key := hK.out (.slice (some ⟨W.heap.size, 0, none⟩) 1 1) (W.alloc (.cells #[.int .u64 3] 23)) (by rw [hGM]; exact ⟨hB.next hb, yb hb0 hb, yb hb1 hb, yb hb2 hb, hk0.below hb, hk1.below hb, hk2.below hb, tabs_step fT (fun c h => by rw [hTM] at h; cases h), (fun h => by rw [upd_ne v _ (by decide)]; exact (f7 (yx h)).below hb), (kV f8), (fun h => by rw [upd_ne v _ (by decide)]; exact (f19 (yx h)).below hb), (kV f20), fun _ => by rw [upd_eq]; exact ⟨W.heap.size, rfl, blk_new W _, row_c W 3⟩, (fun h => by rw [upd_ne v _ (by decide)]; exact (f36 (yx h)).below hb), (kV f37), (kV f40)⟩)
   clear hb0 hb1 hb2 hk0 hk1 hk2 fT f7 f8 f19 f20 f35 f36 f37 f40 hK HALL
   simpa [upd, dg] using key
  ·
   have d35 := f35 (haft ⟨35, .data⟩ (by simp) rfl)
   have dg := fT 33 _ (haft ⟨33, .guard⟩ (by simp) rfl) (by rw [hTM]; rfl)
   rw [if_pos (by simp [Region.wanted, yielded, dg])]
   have HALL := yk (ya hK (ya hB (ya hb0 ( ya hb1 ( ya hb2 ( ya hk0 ( ya hk1 ( ya hk2 ( ya fT ( ya f7 ( ya f8 ( ya f19 ( ya f20 ( ya f35 ( ya f36 ( ya f37 ( ya f40 (True.intro))))))))))))))))))
   clear hK hb0 hb1 hb2 hk0 hk1 hk2 fT f7 f8 f19 f20 f35 f36 f37 f40
   obtain ⟨g, a1, a2, a3⟩ := d35
   have hb := yw W
   have HCL := yk (CDy.lit (b := false) (m := 3) (e := -2) a2 a3 (by rw [show cman (sgn false 3) = 3 from by kernel_rfl]; exact limbs_one (by decide) (by decide)) (by kernel_rfl) (by kernel_rfl))
   clear a2 a3
   go_simp
   obtain ⟨hK, hB, hb0, hb1, hb2, hk0, hk1, hk2, fT, f7, f8, f19, f20, f35, f36, f37, f40, _⟩ := HALL.out
   have key := hK.out (.agg #[.bool false, .slice (some ⟨g, 0, none⟩) 1 1, .int .i64 (-2)]) W (by rw [hGM]; exact ⟨hB.next hb, yb hb0 hb, yb hb1 hb, yb hb2 hb, hk0.below hb, hk1.below hb, hk2.below hb, tabs_step fT (fun c h => by rw [hTM] at h; cases h), (fun h => by rw [upd_ne v _ (by decide)]; exact (f7 (yx h)).below hb), (kV f8), (fun h => by rw [upd_ne v _ (by decide)]; exact (f19 (yx h)).below hb), (kV f20), (fun h0 => by rw [upd_ne v _ (by decide)]; have h := f35 (yx h0); exact (let ⟨g, a1, a2, a3⟩ := h; ⟨g, a1, yb a2 hb, Kd.C_below a3 hb⟩)), fun _ => by rw [upd_eq]; exact HCL.out, (kV f37), (kV f40)⟩)
   clear hb0 hb1 hb2 hk0 hk1 hk2 fT f7 f8 f19 f20 f35 f36 f37 f40 hK HALL
   simpa [upd, dg, a1] using key
  ·
   have d34 := fT 34 _ (haft ⟨34, .data⟩ (by simp) rfl) (by rw [hTM]; rfl)
   have d36 := f36 (haft ⟨36, .data⟩ (by simp) rfl)
   have dg := fT 33 _ (haft ⟨33, .guard⟩ (by simp) rfl) (by rw [hTM]; rfl)
   rw [if_pos (by simp [Region.wanted, yielded, dg])]
   have K4 := hk2
   have HALL := yk (ya hK (ya hB (ya hb0 ( ya hb1 ( ya hb2 ( ya hk0 ( ya hk1 ( ya hk2 ( ya fT ( ya f7 ( ya f8 ( ya f19 ( ya f20 ( ya f35 ( ya f36 ( ya f37 ( ya f40 (True.intro))))))))))))))))))
   clear hK hb0 hb1 hb2 hk0 hk1 hk2 fT f7 f8 f19 f20 f35 f36 f37 f40
   go_simp
   go_at_call 8
   refine (same_self K4.c d36 (Ok.of 2 (by decide) (by decide) (by decide) (by decide))).mono ?_
   rintro en w4 ⟨rfl, hb⟩
   obtain ⟨hK, hB, hb0, hb1, hb2, hk0, hk1, hk2, fT, f7, f8, f19, f20, f35, f36, f37, f40, _⟩ := HALL.out
   have key := hK.out (.bool true) w4 (by rw [hGM]; exact ⟨hB.next hb, yb hb0 hb, yb hb1 hb, yb hb2 hb, hk0.below hb, hk1.below hb, hk2.below hb, tabs_step fT (fun c h => by rw [hTM] at h; cases h), (fun h => by rw [upd_ne v _ (by decide)]; exact (f7 (yx h)).below hb), (kV f8), (fun h => by rw [upd_ne v _ (by decide)]; exact (f19 (yx h)).below hb), (kV f20), (fun h0 => by rw [upd_ne v _ (by decide)]; have h := f35 (yx h0); exact (let ⟨g, a1, a2, a3⟩ := h; ⟨g, a1, yb a2 hb, Kd.C_below a3 hb⟩)), (fun h => by rw [upd_ne v _ (by decide)]; exact (f36 (yx h)).below hb), yu, (kV f40)⟩)
   clear hb0 hb1 hb2 hk0 hk1 hk2 fT f7 f8 f19 f20 f35 f36 f37 f40 hK HALL
   simpa [upd, d34, dg] using key
  ·
   have d33 := fT 33 _ (haft ⟨33, .data⟩ (by simp) rfl) (by rw [hTM]; rfl)
   have d37 := f37 (haft ⟨37, .data⟩ (by simp) rfl)
   rw [if_pos (by rfl)]
   have hb := yw W
   have key := hK.out (.bool true) W (by rw [hGM]; exact ⟨hB.next hb, yb hb0 hb, yb hb1 hb, yb hb2 hb, hk0.below hb, hk1.below hb, hk2.below hb, tabs_step fT (fun c h => by rw [hTM] at h; exact yo h), (fun h => by rw [upd_ne v _ (by decide)]; exact (f7 (yx h)).below hb), (kV f8), (fun h => by rw [upd_ne v _ (by decide)]; exact (f19 (yx h)).below hb), (kV f20), (fun h0 => by rw [upd_ne v _ (by decide)]; have h := f35 (yx h0); exact (let ⟨g, a1, a2, a3⟩ := h; ⟨g, a1, yb a2 hb, Kd.C_below a3 hb⟩)), (fun h => by rw [upd_ne v _ (by decide)]; exact (f36 (yx h)).below hb), (kV f37), (kV f40)⟩)
   clear hb0 hb1 hb2 hk0 hk1 hk2 fT f7 f8 f19 f20 f35 f36 f37 f40 hK hb
   go_simp
   simpa [upd, d33, d37] using key
  ·
   have d38 := fT 38 _ (haft ⟨38, .data⟩ (by simp) rfl) (by rw [hTM]; rfl)
   rw [if_pos (by rfl)]
   have hb := yw W
   have key := hK.out (.bool true) W (by rw [hGM]; exact ⟨hB.next hb, yb hb0 hb, yb hb1 hb, yb hb2 hb, hk0.below hb, hk1.below hb, hk2.below hb, tabs_step fT (fun c h => by rw [hTM] at h; exact yo h), (fun h => by rw [upd_ne v _ (by decide)]; exact (f7 (yx h)).below hb), (kV f8), (fun h => by rw [upd_ne v _ (by decide)]; exact (f19 (yx h)).below hb), (kV f20), (fun h0 => by rw [upd_ne v _ (by decide)]; have h := f35 (yx h0); exact (let ⟨g, a1, a2, a3⟩ := h; ⟨g, a1, yb a2 hb, Kd.C_below a3 hb⟩)), (fun h => by rw [upd_ne v _ (by decide)]; exact (f36 (yx h)).below hb), (kV f37), (kV f40)⟩)
   clear hb0 hb1 hb2 hk0 hk1 hk2 fT f7 f8 f19 f20 f35 f36 f37 f40 hK hb
   go_simp
   simpa [upd, d38] using key
  ·
   have dg := fT 39 _ (haft ⟨39, .guard⟩ (by simp) rfl) (by rw [hTM]; rfl)
   rw [if_pos (by simp [Region.wanted, yielded, dg])]
   have HALL := yk (ya hK (ya hB (ya hb0 ( ya hb1 ( ya hb2 ( ya hk0 ( ya hk1 ( ya hk2 ( ya fT ( ya f7 ( ya f8 ( ya f19 ( ya f20 ( ya f35 ( ya f36 ( ya f37 ( ya f40 (True.intro))))))))))))))))))
   clear hK hb0 hb1 hb2 hk0 hk1 hk2 fT f7 f8 f19 f20 f35 f36 f37 f40
   go_simp
   go_at_call 13
   refine (QD.out _ (tab_below HT.out hB.1)).mono ?_
   rintro en w4 ⟨rfl, hb⟩
   obtain ⟨hK, hB, hb0, hb1, hb2, hk0, hk1, hk2, fT, f7, f8, f19, f20, f35, f36, f37, f40, _⟩ := HALL.out
   have key := hK.out (.bool true) w4 (by rw [hGM]; exact ⟨hB.next hb, yb hb0 hb, yb hb1 hb, yb hb2 hb, hk0.below hb, hk1.below hb, hk2.below hb, tabs_step fT (fun c h => by rw [hTM] at h; cases h), (fun h => by rw [upd_ne v _ (by decide)]; exact (f7 (yx h)).below hb), (kV f8), (fun h => by rw [upd_ne v _ (by decide)]; exact (f19 (yx h)).below hb), (kV f20), (fun h0 => by rw [upd_ne v _ (by decide)]; have h := f35 (yx h0); exact (let ⟨g, a1, a2, a3⟩ := h; ⟨g, a1, yb a2 hb, Kd.C_below a3 hb⟩)), (fun h => by rw [upd_ne v _ (by decide)]; exact (f36 (yx h)).below hb), (kV f37), yu⟩)
   clear hb0 hb1 hb2 hk0 hk1 hk2 fT f7 f8 f19 f20 f35 f36 f37 f40 hK HALL
   simpa [upd, dg] using key
  ·
   have d39 := fT 39 _ (haft ⟨39, .data⟩ (by simp) rfl) (by rw [hTM]; rfl)
   have d40 := f40 (haft ⟨40, .data⟩ (by simp) rfl)
   rw [if_pos (by rfl)]
   have hb := yw W
   have key := hK.out (.bool true) W (by rw [hGM]; exact ⟨hB.next hb, yb hb0 hb, yb hb1 hb, yb hb2 hb, hk0.below hb, hk1.below hb, hk2.below hb, tabs_step fT (fun c h => by rw [hTM] at h; exact yo h), (fun h => by rw [upd_ne v _ (by decide)]; exact (f7 (yx h)).below hb), (kV f8), (fun h => by rw [upd_ne v _ (by decide)]; exact (f19 (yx h)).below hb), (kV f20), (fun h0 => by rw [upd_ne v _ (by decide)]; have h := f35 (yx h0); exact (let ⟨g, a1, a2, a3⟩ := h; ⟨g, a1, yb a2 hb, Kd.C_below a3 hb⟩)), (fun h => by rw [upd_ne v _ (by decide)]; exact (f36 (yx h)).below hb), (kV f37), (kV f40)⟩)
   clear hb0 hb1 hb2 hk0 hk1 hk2 fT f7 f8 f19 f20 f35 f36 f37 f40 hK hb
   go_simp
   simpa [upd, d39, d40] using key
  ·
   have d41 := fT 41 _ (haft ⟨41, .data⟩ (by simp) rfl) (by rw [hTM]; rfl)
   rw [if_pos (by rfl)]
   have hb := yw W
   have key := hK.out (.bool true) W (by rw [hGM]; exact ⟨hB.next hb, yb hb0 hb, yb hb1 hb, yb hb2 hb, hk0.below hb, hk1.below hb, hk2.below hb, tabs_step fT (fun c h => by rw [hTM] at h; exact yo h), (fun h => by rw [upd_ne v _ (by decide)]; exact (f7 (yx h)).below hb), (kV f8), (fun h => by rw [upd_ne v _ (by decide)]; exact (f19 (yx h)).below hb), (kV f20), (fun h0 => by rw [upd_ne v _ (by decide)]; have h := f35 (yx h0); exact (let ⟨g, a1, a2, a3⟩ := h; ⟨g, a1, yb a2 hb, Kd.C_below a3 hb⟩)), (fun h => by rw [upd_ne v _ (by decide)]; exact (f36 (yx h)).below hb), (kV f37), (kV f40)⟩)
   clear hb0 hb1 hb2 hk0 hk1 hk2 fT f7 f8 f19 f20 f35 f36 f37 f40 hK hb
   go_simp
   simpa [upd, d41] using key
 case hendM =>
  intro v W L0 hall hGv
  rw [hGM] at hGv
  obtain ⟨hB, hb0, hb1, hb2, hk0, hk1, hk2, fT, f7, f8, f19, f20, f35, f36, f37, f40⟩ := hGv
  have d42 := fT 42 _ (hall 42 (by decide)) (by rw [hTM]; rfl)
  replace BEL := yk hB
  clear hall hB fT f7 f8 f19 f20 f35 f36 f37 f40
  simp only [setAll, List.setIfInBounds_toArray, List.set_cons_zero, List.set_cons_succ, Nat.reduceAdd, d42]
  go_wp2
  go_ret
  exact ⟨rfl, BEL.out.1⟩
def fewP (v : Int) : Prop := cman v < 2 ^ 54
def FewG (G : Int → Option (Int × Int)) : Prop := ∀ z v e, z.natAbs < 2 ^ 2098 → G z = some (v, e) → fewP v
theorem cman_one : cman 1 = 1 := by kernel_rfl
theorem sel_small {a b c d k : Int} (ha : a.natAbs ≤ 1) (hb : b.natAbs ≤ 1) (hc : c.natAbs ≤ 1) (hd : d.natAbs ≤ 1) : (sel a b c d k).natAbs ≤ 1 := by
 unfold sel; repeat' split
 all_goals assumption
theorem Ok.neg {z e : Int} (h : Ok z e) : Ok (-z) e := ⟨by rw [Int.natAbs_neg]; exact h.1, h.2⟩
theorem ok_small {v e : Int} (h : v.natAbs < 2 ^ 60) (h1 : -60000 ≤ e) (h2 : e ≤ 60000) : Ok v e := Ok.of 60 h (by decide) (by omega) (by omega)
def OkG (G : Int → Option (Int × Int)) : Prop := ∀ z v e, z.natAbs < 2 ^ 2098 → G z = some (v, e) → Ok v e
theorem okg_at {n : Int} {y : Int × Int} (h : Ok y.1 y.2) : OkG (atF n y) := by
 intro z v e _ hz
 unfold atF at hz
 split at hz
 · obtain rfl := Option.some.inj hz; exact h
 · cases hz
theorem okg_or3 {G0 G1 G2 : Int → Option (Int × Int)} (h0 : OkG G0) (h1 : OkG G1) (h2 : OkG G2) : OkG (or3 G0 G1 G2) := by
 intro z v e hz h
 unfold or3 at h
 cases h3 : G0 z with
 | some y => rw [h3] at h; exact h0 z v e hz (h3.trans h)
 | none =>
   rw [h3] at h
   cases h4 : G1 z with
   | some y => rw [h4] at h; exact h1 z v e hz (h4.trans h)
   | none => rw [h4] at h; exact h2 z v e hz h
theorem okg_pow2 {less lo hi : Int} (hl : less.natAbs < 2 ^ 20) (h1 : -16384 ≤ lo) (h2 : hi ≤ 16384) : OkG (pow2F less lo hi) := by
 intro z v e _ h
 unfold pow2F powV at h
 cases h3 : smallF (2 ^ 1074) z lo hi with
 | none => rw [h3] at h; cases h
 | some n =>
   have hn := smallF_in (Int.pow_pos (by decide)) h3
   rw [h3] at h
   obtain ⟨rfl, rfl⟩ := Prod.mk.inj (Option.some.inj h)
   exact Ok.of _ (sm_sub (sm_le (m := 20000) (sm_pow _) (by omega)) (sm_le (m := 20000) (sm_mul hl) (by omega))) (by decide) (by omega) (by omega)
theorem okg_pow10 {less lo hi : Int} (hl : less.natAbs < 2 ^ 20) (h2 : hi ≤ 50) : OkG (pow10F less lo hi) := by
 intro z v e _ h
 unfold pow10F at h
 cases h3 : smallF (2 ^ 1074) z lo hi with
 | none => rw [h3] at h; cases h
 | some n =>
   have hn := smallF_in (Int.pow_pos (by decide)) h3
   rw [h3] at h
   obtain ⟨rfl, rfl⟩ := Prod.mk.inj (Option.some.inj h)
   exact Ok.of _ (sm_sub (tenI_small (by omega)) (sm_le (m := 300) hl (by decide))) (by decide) (by decide) (by decide)
theorem okg_lg2 {more : Int} (hm : more.natAbs < 2 ^ 20) : OkG (lg2F more) := by
 intro z v e hz h
 unfold lg2F log2F at h
 split at h
 · obtain ⟨rfl, rfl⟩ := Prod.mk.inj (Option.some.inj h)
   have hts := sm_le (m := 2400) (sm_add hz (sm_le (m := 2098) (sm_mul (k := 1074) hm) (by decide))) (by decide)
   have hc := cexp_small hts
   exact ok_small (by omega) (by decide) (by decide)
 · cases h
theorem okg_lg10 {more : Int} {most : Nat} (hmost : most ≤ 40) : OkG (lg10F more most) := by
 intro z v e _ h
 unfold lg10F logF at h
 cases h3 : (List.range (most + 1)).find? (fun j => decide (z + more * 2 ^ 1074 = tenI j * 2 ^ 1074)) with
 | none => rw [h3] at h; cases h
 | some j =>
   rw [h3] at h
   obtain ⟨rfl, rfl⟩ := Prod.mk.inj (Option.some.inj h)
   have hj := List.mem_of_find?_eq_some h3
   rw [List.mem_range] at hj
   exact ok_small (by omega) (by decide) (by decide)
theorem okg_sine : OkG (turnF sineK) := by
 intro z v e _ h
 unfold turnF sineK at h
 split at h
 · obtain ⟨rfl, rfl⟩ := Prod.mk.inj (Option.some.inj h)
   exact ok_small (Nat.lt_of_le_of_lt (sel_small (by decide) (by decide) (by decide) (by decide)) (by decide)) (by decide) (by decide)
 · cases h
theorem okg_cosine : OkG (turnF cosineK) := by
 intro z v e _ h
 unfold turnF cosineK at h
 split at h
 · obtain ⟨rfl, rfl⟩ := Prod.mk.inj (Option.some.inj h)
   exact ok_small (Nat.lt_of_le_of_lt (sel_small (by decide) (by decide) (by decide) (by decide)) (by decide)) (by decide) (by decide)
 · cases h
theorem okg_tangent : OkG (turnF tangentK) := by
 intro z v e _ h
 unfold turnF tangentK at h
 generalize nearF z 1072 % 4 = k at h
 generalize z - nearF z 1072 * 2 ^ 1073 = r at h
 generalize (2 : Int) ^ 1072 = M at h
 unfold tanF at h
 repeat' split at h
 all_goals first
  | cases h; done
  | (obtain ⟨rfl, rfl⟩ := Prod.mk.inj (Option.some.inj h); exact ok_small (by decide) (by decide) (by decide))
theorem okg_all : ∀ G ∈ caseL, OkG G := by
 intro G hG
 have z0 : OkG (atF 0 (0, 0)) := okg_at (ok_small (by decide) (by decide) (by decide))
 have o1 : OkG (atF 0 (1, 0)) := okg_at (ok_small (by decide) (by decide) (by decide))
 have a1 : OkG (atF 1 (0, 0)) := okg_at (ok_small (by decide) (by decide) (by decide))
 unfold caseL at hG
 simp only [List.mem_cons, List.not_mem_nil, or_false] at hG
 rcases hG with rfl | rfl | rfl | rfl | rfl | rfl | rfl | rfl | rfl | rfl | rfl | rfl | rfl | rfl | rfl | rfl | rfl | rfl | rfl | rfl | rfl | rfl | rfl | rfl | rfl | rfl | rfl | rfl | rfl | rfl
 · exact o1
 · exact okg_pow2 (by decide) (by decide) (by decide)
 · exact okg_pow10 (by decide) (by decide)
 · exact z0
 · exact okg_pow2 (by decide) (by decide) (by decide)
 · exact okg_pow10 (by decide) (by decide)
 · exact a1
 · exact okg_lg2 (by decide)
 · exact okg_lg10 (by decide)
 · exact z0
 · exact okg_lg2 (by decide)
 · exact okg_lg10 (by decide)
 · exact z0
 · exact o1
 · exact z0
 · exact okg_sine
 · exact okg_cosine
 · exact okg_tangent
 · exact z0
 · exact a1
 · exact z0
 · exact okg_or3 z0 (okg_at (ok_small (by decide) (by decide) (by decide))) (okg_at (ok_small (by decide) (by decide) (by decide)))
 · exact okg_or3 a1 (okg_at (ok_small (by decide) (by decide) (by decide))) (okg_at (ok_small (by decide) (by decide) (by decide)))
 · exact okg_or3 z0 (okg_at (ok_small (by decide) (by decide) (by decide))) (okg_at (ok_small (by decide) (by decide) (by decide)))
 · exact z0
 · exact o1
 · exact z0
 · exact z0
 · exact a1
 · exact z0
theorem ok_case {f : Nat} {z v e : Int} (hz : z.natAbs < 2 ^ 2098) (h : caseG f z = some (v, e)) : Ok v e := by
 unfold caseG at h
 cases hG : caseL[f - 1]? with
 | none => rw [hG] at h; cases h
 | some G => rw [hG] at h; exact okg_all G (List.mem_of_getElem? hG) z v e hz h
theorem ok_getD {o : Option (Int × Int)} (h : ∀ v e, o = some (v, e) → Ok v e) : Ok (o.getD (0, 0)).1 (o.getD (0, 0)).2 := by
 cases o with
 | none => exact ok_small (by decide) (by decide) (by decide)
 | some y => exact h y.1 y.2 rfl
theorem ex_ok1 (f x : Nat) : Ok ((exO f x).getD (0, 0)).1 ((exO f x).getD (0, 0)).2 := ok_getD fun v e h => by
 unfold exO at h
 split at h
 · exact ok_case (fromV_small x) h
 · cases h
theorem ex_ok {f x : Nat} : Ok ((exO f x).getD (0, 0)).1 ((exO f x).getD (0, 0)).2 ∧ Ok (-((exO f x).getD (0, 0)).1) ((exO f x).getD (0, 0)).2 := ⟨ex_ok1 f x, (ex_ok1 f x).neg⟩
theorem ok_ang {f : Nat} {y x v e : Int} (h : angF f y x = some (v, e)) : Ok v e := by
 have hs := sgnI_cases y
 unfold angF at h
 repeat' split at h
 all_goals first
  | cases h; done
  | (obtain ⟨rfl, rfl⟩ := Prod.mk.inj (Option.some.inj h); exact ok_small (by omega) (by decide) (by decide))
theorem ex2_ok (f y x : Nat) : Ok ((exO2 f y x).getD (0, 0)).1 ((exO2 f y x).getD (0, 0)).2 := ok_getD fun v e h => by
 unfold exO2 at h
 split at h
 · exact ok_ang h
 · cases h
theorem RDy.zero_unit {w : World} {b : Nat} {v : Value} {e e' : Int} (h : RDy w b v 0 e) : RDy w b v 0 e' := by
 obtain ⟨A, n, c, rfl, hr⟩ := h
 exact ⟨A, n, c, rfl, hr⟩
theorem len_of_bl {n k : Nat} (h : bl n ≤ 64 * k) : (limbs n).length ≤ k := limbs_len_le (bl_le_iff.1 h)
theorem bl_diff {y z : Int} {k : Nat} (h1 : bl y.natAbs ≤ k) (h2 : bl z.natAbs ≤ k) : bl (y - z).natAbs ≤ k + 1 := by
 have h3 : y.natAbs < 2 ^ k := bl_le_iff.1 h1
 have h4 : z.natAbs < 2 ^ k := bl_le_iff.1 h2
 refine bl_le_iff.2 ?_
 rw [Nat.pow_succ 2 k]
 omega
theorem bl_mono {a b : Nat} (h : a ≤ b) : bl a ≤ bl b := bl_le_iff.2 (Nat.lt_of_le_of_lt h (bl_lt b))
theorem Ok.diff_len {y z e : Int} (o : Ok y e) (o' : Ok z e) : (limbs (cman (y - z))).length ≤ 1073741824 := by
 have h : bl (cman (y - z)) ≤ 64 * 1025 := Nat.le_trans (bl_mono (cman_le _)) (Nat.le_trans (bl_diff o.1 o'.1) (by decide))
 exact Nat.le_trans (len_of_bl h) (by decide)
theorem top_form {z e : Int} (h : z ≠ 0) : cexp z e + bl (cman z) = e + bl z.natAbs := by
 obtain ⟨j, h1, h2, h3⟩ := of_form (e := e) h
 have h4 : z.natAbs = cman z * 2 ^ j := by
  have := congrArg Int.natAbs h2
  rwa [sgn_abs] at this
 rw [h4, bl_mul_pow (fun h0 => h (cman_eq_zero.1 h0)), h1]
 omega
theorem bl_lt_lt {a b : Nat} (h : bl a < bl b) : a < b := by
 refine Classical.byContradiction fun hc => ?_
 have h1 : bl b ≤ bl a := bl_le_iff.2 (Nat.lt_of_le_of_lt (by omega) (bl_lt a))
 omega
theorem ord_lt {y z : Int} (h : sgnI y < sgnI z) : sgnI (y - z) = -1 := by
 unfold sgnI at *
 repeat' split at h
 all_goals repeat' split
 all_goals omega
theorem ord_gt {y z : Int} (h : sgnI z < sgnI y) : sgnI (y - z) = 1 := by
 unfold sgnI at *
 repeat' split at h
 all_goals repeat' split
 all_goals omega
theorem ord_zero {y z : Int} (h : sgnI y = 0) (h' : sgnI z = 0) : sgnI (y - z) = 0 := by
 unfold sgnI at *
 repeat' split at h
 all_goals repeat' split at h'
 all_goals repeat' split
 all_goals omega
def ordS (a b : Int) : Int := if a < b then -1 else if b < a then 1 else 0
theorem ord_apart {y z : Int} (h : sgnI y = sgnI z → sgnI y = 0) : sgnI (y - z) = ordS (sgnI y) (sgnI z) := by
 unfold ordS
 by_cases h1 : sgnI y < sgnI z
 · rw [if_pos h1]; exact ord_lt h1
 · rw [if_neg h1]
   by_cases h2 : sgnI z < sgnI y
   · rw [if_pos h2]; exact ord_gt h2
   · rw [if_neg h2]
     have h3 : sgnI y = sgnI z := by omega
     exact ord_zero (h h3) (h3 ▸ h h3)
theorem sgn_ne {y s : Int} (h : sgnI y = s) (hs : s = 1 ∨ s = -1) : y ≠ 0 := by
 rintro rfl
 have : sgnI 0 = 0 := rfl
 omega
theorem ord_top {y z e s : Int} (h1 : sgnI y = s) (h2 : sgnI z = s) (hs : s = 1 ∨ s = -1) (h : cexp z e + bl (cman z) - 1 < cexp y e + bl (cman y) - 1) : sgnI (y - z) = s := by
 rw [top_form (sgn_ne h1 hs), top_form (sgn_ne h2 hs)] at h
 have h3 : z.natAbs < y.natAbs := bl_lt_lt (by omega)
 unfold sgnI at *
 repeat' split at h1
 all_goals repeat' split at h2
 all_goals repeat' split
 all_goals omega
theorem ord_swap (y z : Int) : sgnI (y - z) = -sgnI (z - y) := by
 unfold sgnI
 repeat' split
 all_goals omega
/-- A number z * 2^e to be read, in any form. -/
def NDy (w : World) (v : Value) (z e : Int) : Prop := ∃ (b : Bool) (l : List Nat) (A : Option Addr) (n c : Nat) (x : Int), v = .agg #[.bool b, .slice A n c, .int .i64 x] ∧ kU.C w A n l ∧ l.length = n ∧ n ≤ c ∧ Wf l ∧ n ≤ 1024 ∧ -1048576 ≤ x ∧ x ≤ 1048576 ∧ ((nv l = 0 ∧ z = 0) ∨ ∃ k : Nat, x = e + k ∧ z = sgn b (nv l) * 2 ^ k)
theorem NDy.below {w w1 : World} {v : Value} {z e : Int} (h : NDy w v z e) (hb : Below w.heap.size w w1) : NDy w1 v z e := by
 obtain ⟨b, l, A, n, c, x, h1, h2, h3⟩ := h
 exact ⟨b, l, A, n, c, x, h1, Kd.C_below h2 hb, h3⟩
theorem NDy.ex {w : World} {v : Value} {z e : Int} (h : NDy w v z e) : ∃ bb A n c x, v = .agg #[.bool bb, .slice A n c, .int .i64 x] := by
 obtain ⟨b, l, A, n, c, x, h1, -⟩ := h
 exact ⟨b, A, n, c, x, h1⟩
theorem CDy.nd {w : World} {v : Value} {z e : Int} (h : CDy w v z e) (o : Ok z e) : NDy w v z e := by
 obtain ⟨A, n, c, rfl, hC, hn, hc⟩ := h
 refine ⟨_, _, A, n, c, _, rfl, hC, hn, hc, wf_limbs _, by rw [← hn]; exact o.len, Int.le_trans (by decide) o.lo, Int.le_trans o.hi (by decide), ?_⟩
 rw [nv_limbs]
 by_cases hz : z = 0
 · exact .inl ⟨by rw [hz, cman_zero], hz⟩
 · obtain ⟨k, h1, h2, -⟩ := of_form (e := e) hz
   exact .inr ⟨k, h1, by rw [← sgn_pow]; exact h2⟩
theorem one_nd {w : World} {v : Value} {z e : Int} (h : NDy w v z e) :
 Calls Tryz.prog 56 #[v] w fun en w' => ∃ v', en = .returned v' ∧ RDy w' w.heap.size v' z e ∧ Below w.heap.size w w' := by
 obtain ⟨b, l, A, n, c, x, rfl, hC, hn, hc, hw, hl, h1, h2, hz⟩ := h
 refine (one_any b l A n c x hn w hC hc hw (by omega) (by omega) (by omega)).mono ?_
 rintro en w' ⟨v', rfl, hr, hb⟩
 refine ⟨v', rfl, ?_, hb⟩
 rcases hz with ⟨hz, rfl⟩ | ⟨k, rfl, rfl⟩
 · rw [hz, sgn_zero] at hr; exact hr.zero_unit
 · exact hr.scale k
theorem nd_zero {b : Bool} {m : Nat} {z e x : Int} (h : (m = 0 ∧ z = 0) ∨ ∃ k : Nat, x = e + k ∧ z = sgn b m * 2 ^ k) : m = 0 ↔ z = 0 := by
 rcases h with ⟨h1, h2⟩ | ⟨k, -, rfl⟩
 · exact ⟨fun _ => h2, fun _ => h1⟩
 · constructor
   · rintro rfl; rw [sgn_zero, Int.zero_mul]
   · intro h
     refine Classical.byContradiction fun hm => ?_
     exact mul_pow_ne (fun h0 => hm (sgn_eq_zero.1 h0)) k h
theorem nd_sgn {b : Bool} {m : Nat} {z e x : Int} (h : (m = 0 ∧ z = 0) ∨ ∃ k : Nat, x = e + k ∧ z = sgn b m * 2 ^ k) : sgnI z = if decide (z = 0) = true then 0 else if b then -1 else 1 := by
 have h0 := nd_zero h
 unfold sgnI
 by_cases hz : z = 0
 · rw [if_pos hz, if_pos (decide_eq_true hz)]
 · rw [if_neg hz, decide_eq_false hz, show (if false = true then (0 : Int) else if b = true then -1 else 1) = if b = true then -1 else 1 from rfl]
   have hm : m ≠ 0 := fun q => hz (h0.1 q)
   rcases h with ⟨-, h2⟩ | ⟨k, -, rfl⟩
   · exact absurd h2 hz
   · have hp : (0 : Int) < 2 ^ k := Int.pow_pos (by decide)
     cases b with
     | false =>
       have h1 : (0 : Int) < sgn false m := by show (0 : Int) < (m : Int); omega
       have h2 := Int.mul_pos h1 hp
       generalize sgn false m * 2 ^ k = q at h2
       rw [if_neg (by omega)]; rfl
     | true =>
       have h1 : sgn true m < 0 := by show -(m : Int) < 0; omega
       have h2 := Int.mul_neg_of_neg_of_pos h1 hp
       rw [if_pos h2]; rfl
theorem nd_top {b : Bool} {m : Nat} {z e x : Int} (h : (m = 0 ∧ z = 0) ∨ ∃ k : Nat, x = e + k ∧ z = sgn b m * 2 ^ k) (hz : z ≠ 0) : x + bl m = e + bl z.natAbs := by
 rcases h with ⟨-, h2⟩ | ⟨k, rfl, rfl⟩
 · exact absurd h2 hz
 · have hm : m ≠ 0 := by rintro rfl; exact hz (by rw [sgn_zero, Int.zero_mul])
   rw [natAbs_mul_pow, sgn_abs, bl_mul_pow hm]
   omega
theorem zero_nd {w : World} {v : Value} {z e : Int} (h : NDy w v z e) :
 Calls Tryz.prog 44 #[v] w fun en w' => en = .returned (.bool (decide (z = 0))) ∧ Below w.heap.size w w' := by
 obtain ⟨b, l, A, n, c, x, rfl, hC, hn, hc, hw, hl, h1, h2, hz⟩ := h
 have QN := yk (fun (m : World) (hm : Below w.heap.size w m) => norm_any l A c m (by rw [hn]; exact Kd.C_below hC hm) (by omega) hw (by omega))
 rw [hn] at QN
 obtain ⟨n1, hn1⟩ : ∃ k, k = (limbs (nv l)).length := ⟨_, rfl⟩
 have hz : ((n1 : Int) == 0) = decide (z = 0) := by
  rw [Bool.eq_iff_iff]
  simp only [beq_iff_eq, decide_eq_true_eq]
  rw [hn1, ← nd_zero hz]
  constructor
  · intro h
    exact limbs_eq_nil.1 (List.length_eq_zero_iff.1 (by omega))
  · intro h
    rw [h, limbs_zero]; rfl
 have HN := yk hn1.symm
 clear hC hn1 hn hw hl h1 h2
 go_enter Tryz.func44, Tryz.ntmps44
 go_wp2_with (go_at_call 76; go_must (refine (QN.out _ (below_alloc yr _)).mono ?_; rintro e w1 ⟨v, rfl, ho, hb⟩; obtain ⟨A1, c1, rfl, hc1, hC1⟩ := Kd.R_reads ho; rw [HN.out]; have HB : Aside0 (Below w.heap.size w w1) := ⟨(by exact below_of_alloc hb)⟩; clear hb ho hC1 hc1))
 go_ret
 exact ⟨ret_bool (by first | rfl | exact hz), HB.out⟩
theorem sign_nd {w : World} {v : Value} {z e : Int} (h : NDy w v z e) :
 Calls Tryz.prog 91 #[v] w fun en w' => en = .returned (.int .i64 (sgnI z)) ∧ Below w.heap.size w w' := by
 have QZ := yk (fun (m : World) (hm : Below w.heap.size w m) => zero_nd (h.below hm))
 obtain ⟨b, l, A, n, c, x, rfl, hC, hn, hc, hw, hl, h1, h2, hz⟩ := h
 have HS := yk (nd_sgn hz)
 obtain ⟨d, hd⟩ : ∃ d, d = decide (z = 0) := ⟨_, rfl⟩
 rw [← hd] at QZ HS
 clear hC hn hc hw hl h1 h2 hz hd
 cases d
 all_goals cases b
 all_goals
  go_enter Tryz.func91, Tryz.ntmps91
  go_wp2_with (go_at_call 44; go_must (refine (QZ.out _ (below_alloc yr _)).mono ?_; rintro e w1 ⟨rfl, hb⟩; have HB : Aside0 (Below w.heap.size w w1) := ⟨(by exact below_of_alloc hb)⟩; have hh : w1.heap[w.heap.size]? = some (.cells #[.bool _, .slice A n c, .int .i64 x] 27 (0, 0)) := (by exact yb (blk_new _ _) hb); have c0 := (cell_of_row w1 _ 0 _ _ _ hh).trans rfl; clear hb hh))
  go_ret
  exact ⟨ret_int (by rw [HS.out]; rfl), HB.out⟩
theorem top_nd {w : World} {v : Value} {z e : Int} (h : NDy w v z e) (h0 : z ≠ 0) :
 Calls Tryz.prog 92 #[v] w fun en w' => en = .returned (.int .i64 (e + bl z.natAbs - 1)) ∧ Below w.heap.size w w' := by
 obtain ⟨b, l, A, n, c, x, rfl, hC, hn, hc, hw, hl, h1, h2, hz⟩ := h
 have QL := yk (fun (m : World) (hm : Below w.heap.size w m) => len_any l A c m (by rw [hn]; exact Kd.C_below hC hm) (by omega) hw (by omega))
 rw [hn] at QL
 rw [← nd_top hz h0]
 obtain ⟨T, hT⟩ : ∃ T, T = bl (nv l) := ⟨_, rfl⟩
 have hTb : T ≤ 65536 := by
  have := bl_le_iff.2 (nv_lt hw)
  omega
 rw [← hT] at QL
 rw [← hT]
 have hw3 : IntKind.i64.wrap (IntKind.i64.wrap (x + T) - 1) = x + T - 1 := by rw [show IntKind.i64.wrap (x + T) = x + T from wrap_i64 (by omega) (by omega)]; exact wrap_i64 (by omega) (by omega)
 clear hC hT hn hc hw hl h1 h2 hz
 go_enter Tryz.func92, Tryz.ntmps92
 go_wp2
 go_region_with (go_at_call 99; refine (QL.out _ ?hB).mono ?_; (case hB => first | exact below_alloc yr _ | exact below_drew (below_alloc yr _) | exact pw_below_drewN (below_alloc yr _) _); rintro e w1 ⟨rfl, hb⟩; have HB : Aside0 (Below w.heap.size w w1) := ⟨(by first | exact below_of_alloc hb | exact below_of_drew hb)⟩; have hh : w1.heap[w.heap.size]? = some (.cells #[.bool b, .slice A n c, .int .i64 x] 27 (0, 0)) := (by first | exact yb (blk_new _ _) hb | exact yb (blk_drew (blk_new _ _)) hb | exact yb (blk_drewN (blk_new _ _) _) hb); have c2 : w1.cell? ⟨w.heap.size, 2, none⟩ = some (.int .i64 x) := (cell_of_row w1 _ 2 _ _ _ hh).trans rfl; clear hb hh)
 all_goals
  go_wp2
  go_ret
  exact ⟨ret_int (by first | rfl | exact hw3), HB.out⟩
theorem nd_neg {b : Bool} {m : Nat} {z e x : Int} {w : World} {B : Nat} {v : Value} (h : (m = 0 ∧ z = 0) ∨ ∃ k : Nat, x = e + k ∧ z = sgn b m * 2 ^ k) (hr : RDy w B v (sgn (!b) m) x) : RDy w B v (-z) e := by
 have hs : sgn (!b) m = -sgn b m := by
  cases b
  · rfl
  · show (m : Int) = - -(m : Int); omega
 rcases h with ⟨rfl, rfl⟩ | ⟨k, rfl, rfl⟩
 · rw [sgn_zero] at hr; exact hr.zero_unit
 · rw [hs] at hr
   rw [← Int.neg_mul]
   exact hr.scale k
theorem neg_nd {v : Value} {z e : Int} {w : World} (h : NDy w v z e) :
 Calls Tryz.prog 112 #[v] w fun en w' => ∃ v', en = .returned v' ∧ RDy w' w.heap.size v' (-z) e ∧ Below w.heap.size w w' := by
 obtain ⟨b0, l, A, n0, c, x0, rfl, hC, hn, hc, hw, hl, h1, h2, hz⟩ := h
 have QF := yk (fun (W : World) (hb : Below w.heap.size w W) => form_any (!b0) l A n0 c x0 hn W (Kd.C_below hC hb) hc hw (by omega) (by omega) (by omega))
 have QR := yk (fun (W : World) (b : Nat) (v : Value) (h : RDy W b v (sgn (!b0) (nv l)) x0) => nd_neg hz h)
 clear hC hn hc hw hl h1 h2 hz
 go_enter Tryz.func112, Tryz.ntmps112
 obtain ⟨BEL, X0, XR⟩ := al2 w 2 #[.bool b0, .slice A n0 c, .int .i64 x0] 27 #[.bool false, .slice none 0 0, .int .i64 0] 27
 obtain ⟨q0, q0', q1, q1', q2, q2'⟩ := bc3 X0.out
 go_wp2_with fail
 have BL := BEL
 clear q0 q0' q1 q1' q2 q2'
 go_at_call 42
 refine (QF.out _ BEL.out.1).mono ?_
 rintro en1 w1 ⟨v1, rfl, hr, hb⟩
 replace BEL := yk (BEL.out.next hb)
 replace X0 := yk (yb X0.out hb)
 replace XR := yk (yb XR.out hb)
 have P1 := yk hr
 obtain ⟨b1, A1, n1, c1, x1, rfl⟩ := hr.ex
 clear hr hb
 go_wp2_with (((with_reducible refine gate_store (p := 2) rfl ?_); go_must (refine sdy 2 (.tmp 10) rfl rfl rfl rfl rfl XR.out rfl ?_; intro wb HX HG)); replace P1 := yk (P1.out.grown_box XR.out (by decide) HG.out); replace BEL := yk (BEL.out.grown HG.out (by omega)); replace X0 := yk (blk_grown X0.out HG.out (by omega)); replace XR := HX; clear HG)
 refine bodyPost_ret (results_dyad rfl _ _ (w.heap.size + 1) _ rfl XR.out rfl) rfl ?_
 exact ⟨_, rfl, QR.out _ _ _ (P1.out.lower (lw BL.out.2)), BEL.out.1⟩
theorem plus_nd {u v : Value} {y z e : Int} {w : World} (h : NDy w u y e) (h' : NDy w v z e) (hl : (limbs (cman y)).length ≤ 268435456) (hl' : (limbs (cman z)).length ≤ 268435456) (le1 : -8589934592 ≤ cexp y e) (le2 : cexp y e ≤ 8589934592) (le1' : -8589934592 ≤ cexp z e) (le2' : cexp z e ≤ 8589934592) :
 Calls Tryz.prog 84 #[u, v] w fun en w' => ∃ v', en = .returned v' ∧ RDy w' w.heap.size v' (y + z) e ∧ Below w.heap.size w w' := by
 have Q1 := yk (fun (m : World) (hm : Below w.heap.size w m) => one_nd (h.below hm))
 have Q2 := yk (fun (m : World) (hm : Below w.heap.size w m) => one_nd (h'.below hm))
 obtain ⟨b0, l, A, n, c, x0, rfl, hC, hn, hc, -⟩ := h
 obtain ⟨b1, l', A', n', c', x1, rfl, hC', hn', hc', -⟩ := h'
 obtain ⟨W0, hW0⟩ : ∃ W0, W0 = ((w.alloc (.cells #[.bool b0, .slice A n c, .int .i64 x0] 27)).alloc (.cells #[.bool b1, .slice A' n' c', .int .i64 x1] 27)).alloc (.cells #[.bool false, .slice none 0 0, .int .i64 0] 27) := ⟨_, rfl⟩
 have hh0 : Aside0 (W0.heap[w.heap.size]? = some (.cells #[.bool b0, .slice A n c, .int .i64 x0] 27 (0, 0))) := ⟨by rw [hW0]; exact blk_alloc (blk_alloc (blk_new _ _) _) _⟩
 have hh1 : Aside0 (W0.heap[w.heap.size + 1]? = some (.cells #[.bool b1, .slice A' n' c', .int .i64 x1] 27 (0, 0))) := ⟨by rw [hW0]; have := blk_new (w.alloc (.cells #[.bool b0, .slice A n c, .int .i64 x0] 27)) (.cells #[.bool b1, .slice A' n' c', .int .i64 x1] 27); rw [size_alloc'] at this; exact blk_alloc this _⟩
 have hh2 : Aside0 (W0.heap[w.heap.size + 1 + 1]? = some (.cells #[.bool false, .slice none 0 0, .int .i64 0] 27 (0, 0))) := ⟨by rw [hW0]; have := blk_new ((w.alloc (.cells #[.bool b0, .slice A n c, .int .i64 x0] 27)).alloc (.cells #[.bool b1, .slice A' n' c', .int .i64 x1] 27)) (.cells #[.bool false, .slice none 0 0, .int .i64 0] 27); rw [size_alloc', size_alloc'] at this; exact this⟩
 have HW : Aside0 (Below w.heap.size w W0) := ⟨by rw [hW0]; exact below_alloc (below_alloc (below_alloc yr _) _) _⟩
 clear hC hC'
 go_enter Tryz.func84, Tryz.ntmps84
 go_upto_region 1 with fail
 rw [← hW0]
 clear hW0
 go_cut [5, 6] (fun v5 v6 wx => Aside0 (∃ v7 v8 v9 v10 L, (∀ i, i < 8 → L.getD i false = true) ∧ OO W0 (.agg #[.bool b0, .slice A n c, .int .i64 x0]) (.agg #[.bool b1, .slice A' n' c', .int .i64 x1]) y e z e L wx v5 v6 v7 v8 v9 v10))
 case first =>
  rename_i QQ KC aC J K1 aJ aM
  clear aC
  refine wp_region_inv (by kernel_rfl) (by kernel_rfl) (fun L a W => ∃ v5 v6 v7 v8 v9 v10, a = { tmps := #[.agg #[.bool b0, .slice A n c, .int .i64 x0], .agg #[.bool b1, .slice A' n' c', .int .i64 x1], .pointer (some ⟨w.heap.size, 0, none⟩), .pointer (some ⟨w.heap.size + 1, 0, none⟩), .pointer (some ⟨w.heap.size + 1 + 1, 0, none⟩), v5, v6, undef, undef, undef, v7, v8, v9, v10, undef, undef, undef, undef, undef, undef, undef, undef, undef, undef, undef, undef, undef, undef, undef, undef, undef, undef, undef, undef, undef, undef, undef, undef, undef, undef, undef, undef, undef, undef, undef, undef, undef, undef, undef, undef, undef, undef, undef, undef, undef, undef, undef, undef, undef, undef, undef, undef, undef, undef, undef, undef, undef, undef, undef, undef, undef, undef, undef, undef, undef], defers := [] } ∧ OO W0 (.agg #[.bool b0, .slice A n c, .int .i64 x0]) (.agg #[.bool b1, .slice A' n' c', .int .i64 x1]) y e z e L W v5 v6 v7 v8 v9 v10) ?h0 ?hstep ?hend
  case h0 =>
   refine ⟨undef, undef, undef, undef, undef, undef, rfl, ⟨below_drew yr, ?_, ?_, ?_, ?_, ?_, ?_, ?_, ?_, ?_, rfl⟩⟩ <;> intro h <;> cases h
  case hstep =>
   intro i o ho L a W hs hl haft hI K hK
   obtain ⟨v5, v6, v7, v8, v9, v10, rfl, hO⟩ := hI
   rcases i with _ | _ | _ | _ | _ | _ | _ | _ | i
   all_goals first
    | (cases ho; done)
    | (obtain rfl := (Option.some.inj ho).symm
       clear ho
       rw [if_pos (by rfl)]
       simp only [List.getElem_toArray, List.getElem_cons_zero, List.getElem_cons_succ, Nat.reduceAdd] at haft hl hK ⊢)
   case zero =>
    obtain ⟨c0, _⟩ := box_cell (yb hh0.out hO.below) 0 rfl
    obtain ⟨c1, _⟩ := box_cell (yb hh0.out hO.below) 1 rfl
    obtain ⟨c2, _⟩ := box_cell (yb hh0.out hO.below) 2 rfl
    go_simp
    exact hK.out _ _ ⟨_, _, _, _, _, _, rfl, hO.load0⟩
   case succ.succ.zero =>
    obtain ⟨c0, _⟩ := box_cell (yb hh1.out hO.below) 0 rfl
    obtain ⟨c1, _⟩ := box_cell (yb hh1.out hO.below) 1 rfl
    obtain ⟨c2, _⟩ := box_cell (yb hh1.out hO.below) 2 rfl
    go_simp
    exact hK.out _ _ ⟨_, _, _, _, _, _, rfl, hO.load2⟩
   case succ.zero =>
    simp [Region.binds] at haft
    obtain rfl := hO.l0 (by simpa [Array.getD_eq_getD_getElem?] using haft)
    have hB := below_then HW.out HW.out.size hO.below
    go_simp
    go_at_call 56
    refine (Q1.out _ hB).mono ?_
    rintro en w1 ⟨v1, rfl, hr, hb⟩
    exact hK.out _ _ ⟨_, _, _, _, _, _, rfl, hO.call1 (not_listed hl) hr hb⟩
   case succ.succ.succ.zero =>
    simp [Region.binds] at haft
    obtain rfl := hO.l2 (by simpa [Array.getD_eq_getD_getElem?] using haft.1)
    have hB := below_then HW.out HW.out.size hO.below
    go_simp
    go_at_call 56
    refine (Q2.out _ hB).mono ?_
    rintro en w1 ⟨v1, rfl, hr, hb⟩
    exact hK.out _ _ ⟨_, _, _, _, _, _, rfl, hO.call3 (not_listed hl) hr hb⟩
   case succ.succ.succ.succ.zero =>
    go_simp
    exact hK.out _ _ ⟨_, _, _, _, _, _, rfl, hO.alloc4 (not_listed hl) rfl⟩
   case succ.succ.succ.succ.succ.zero =>
    go_simp
    exact hK.out _ _ ⟨_, _, _, _, _, _, rfl, hO.alloc5 (not_listed hl) rfl⟩
   case succ.succ.succ.succ.succ.succ.zero =>
    simp [Region.binds] at haft
    have h4 : L.getD 4 false = true := by simpa [Array.getD_eq_getD_getElem?] using haft.1
    have h1 : L.getD 1 false = true := by simpa [Array.getD_eq_getD_getElem?] using haft.2.1
    obtain ⟨g, cs, rfl, hgw, hh, hcs⟩ := store_at (hO.l4 h4)
    obtain ⟨A1, m1, c1, rfl, _⟩ := id (hO.l1 h1)
    refine wp_store_box 27 5 (.tmp 11) rfl rfl (g := g) (e := 27) (.agg #[.bool (cneg y), .slice A1 m1 c1, .int .i64 (cexp y e)]) [.bool (cneg y), .slice A1 m1 c1, .int .i64 (cexp y e)] rfl rfl rfl info_dyad ?_ hh hcs ?_
    · intro q hq; simp at hq; rcases hq with rfl | rfl | rfl <;> rfl
    · intro w1 hw1 hg1
      exact hK.out _ _ ⟨_, _, _, _, _, _, rfl, OO.store6 h1 h4 hO rfl h4 hh hgw hw1 rfl rfl hg1⟩
   case succ.succ.succ.succ.succ.succ.succ.zero =>
    simp [Region.binds] at haft
    have h4 : L.getD 5 false = true := by simpa [Array.getD_eq_getD_getElem?] using haft.1
    have h1 : L.getD 3 false = true := by simpa [Array.getD_eq_getD_getElem?] using haft.2.1
    obtain ⟨g, cs, rfl, hgw, hh, hcs⟩ := store_at (hO.l5 h4)
    obtain ⟨A1, m1, c1, rfl, _⟩ := id (hO.l3 h1)
    refine wp_store_box 27 6 (.tmp 13) rfl rfl (g := g) (e := 27) (.agg #[.bool (cneg z), .slice A1 m1 c1, .int .i64 (cexp z e)]) [.bool (cneg z), .slice A1 m1 c1, .int .i64 (cexp z e)] rfl rfl rfl info_dyad ?_ hh hcs ?_
    · intro q hq; simp at hq; rcases hq with rfl | rfl | rfl <;> rfl
    · intro w1 hw1 hg1
      exact hK.out _ _ ⟨_, _, _, _, _, _, rfl, OO.store7 h1 h4 hO rfl h4 hh hgw hw1 rfl rfl hg1⟩
  case hend =>
   intro L a W hall hI
   obtain ⟨v5, v6, v7, v8, v9, v10, rfl, hO⟩ := hI
   refine aM _ _ (Met.intro (aJ _ _ ?_))
   repeat apply Exists.intro
   exact ⟨⟨v7, v8, v9, v10, L, hall, hO⟩, rfl⟩
 case rest =>
  obtain ⟨v7, v8, v9, v10, L, hall, hO⟩ := hcut.out
  obtain ⟨g5, g6, A1, n1, c1, A2, n2, c2, rfl, rfl, h5, h6, r1, r2, hB, hg5, hg6⟩ := hO.done hall
  obtain ⟨d0, _⟩ := box_cell (v := .bool (cneg y)) h5 0 rfl
  obtain ⟨d1, _⟩ := box_cell (v := .slice A1 n1 c1) h5 1 rfl
  obtain ⟨d2, _⟩ := box_cell (v := .int .i64 (cexp y e)) h5 2 rfl
  obtain ⟨f0, _⟩ := box_cell (v := .bool (cneg z)) h6 0 rfl
  obtain ⟨f1, _⟩ := box_cell (v := .slice A2 n2 c2) h6 1 rfl
  obtain ⟨f2, _⟩ := box_cell (v := .int .i64 (cexp z e)) h6 2 rfl
  have HB := yk hB
  have H5 := yk h5
  have H6 := yk h6
  have R1 := yk r1
  have R2 := yk r2
  have N1 := yk (Kd.R_reads' r1).1
  have N2 := yk (Kd.R_reads' r2).1
  have HRES := yk (yb hh2.out hB)
  have hsz : w.heap.size + 3 ≤ W0.heap.size := by have := blk_lt hh2.out; omega
  have BW := yk (below_then HW.out HW.out.size hB)
  clear hcut hO hB h5 h6 r1 r2 hall
  by_cases hy : y = 0
  · have hn1 : n1 = 0 := by rw [N1.out, hy, cman_zero, limbs_zero]; rfl
    subst hn1
    go_wp2_with ((with_reducible refine gate_store (p := 4) rfl ?_); go_must (refine sdy 4 (.tmp 18) rfl rfl rfl rfl rfl HRES.out rfl ?_; intro wb HX HG))
    refine bodyPost_ret (results_dyad rfl _ _ (w.heap.size + 1 + 1) _ rfl HX.out rfl) rfl ?_
    refine ⟨_, rfl, ?_, BW.out.grown HG.out BW.out.size (fun k hk => by cases hk; omega)⟩
    rw [hy, Int.zero_add]
    exact RDy.lower (RDy.typed ⟨A2, n2, c2, rfl, R2.out⟩ HRES.out HG.out) HW.out.size
  · have hn1 : n1 ≠ 0 := by rw [N1.out]; exact fun h => hy (cman_eq_zero.1 (limbs_eq_nil.1 (List.length_eq_zero_iff.1 h)))
    have hn1' : ((n1 : Int) == 0) = false := by simp; omega
    by_cases hz : z = 0
    · have hn2 : n2 = 0 := by rw [N2.out, hz, cman_zero, limbs_zero]; rfl
      subst hn2
      go_wp2_with ((with_reducible refine gate_store (p := 4) rfl ?_); go_must (refine sdy 4 (.tmp 23) rfl rfl rfl rfl rfl HRES.out rfl ?_; intro wb HX HG))
      refine bodyPost_ret (results_dyad rfl _ _ (w.heap.size + 1 + 1) _ rfl HX.out rfl) rfl ?_
      refine ⟨_, rfl, ?_, BW.out.grown HG.out BW.out.size (fun k hk => by cases hk; omega)⟩
      rw [hz, Int.add_zero]
      exact RDy.lower (RDy.typed ⟨A1, n1, c1, rfl, R1.out⟩ HRES.out HG.out) HW.out.size
    · have hn2 : n2 ≠ 0 := by rw [N2.out]; exact fun h => hz (cman_eq_zero.1 (limbs_eq_nil.1 (List.length_eq_zero_iff.1 h)))
      have hn2' : ((n2 : Int) == 0) = false := by simp; omega
      obtain ⟨xy, hxy⟩ : ∃ x, x = cexp y e := ⟨_, rfl⟩
      obtain ⟨xz, hxz⟩ : ∃ x, x = cexp z e := ⟨_, rfl⟩
      have HXY := yk hxy
      have HXZ := yk hxz
      rw [← hxy] at le1 le2 d2 H5
      rw [← hxz] at le1' le2' f2 H6
      clear hxy hxz
      go_upto_region 6 with fail
      obtain ⟨W1, rfl⟩ : ∃ W1, W1 = wc := ⟨_, rfl⟩
      go_cut [7] (fun v7 wx => ∃ E : Int, v7 = .int .i64 E ∧ E ≤ xy ∧ E ≤ xz ∧ (E = xy ∨ E = xz) ∧ wx = W1)
      case first =>
       rcases Int.le_total xy xz with hle | hle
       all_goals go_wp2_with fail
       all_goals
        go_meet
        case rel => first | exact ⟨xy, by first | rfl | rw [Int.min_eq_left hle], by omega, by omega, .inl rfl, rfl⟩ | exact ⟨xz, by first | rfl | rw [Int.min_eq_right hle], by omega, by omega, .inr rfl, rfl⟩
      case rest =>
      obtain ⟨E, rfl, hE1, hE2, hE3, hWX⟩ := hcut
      subst hWX
      obtain ⟨ky, hky⟩ : ∃ k : Nat, xy - E = (k : Int) := ⟨(xy - E).toNat, by omega⟩
      obtain ⟨kz, hkz⟩ : ∃ k : Nat, xz - E = (k : Int) := ⟨(xz - E).toNat, by omega⟩
      have hky2 : ky ≤ 17179869184 := by omega
      have hkz2 : kz ≤ 17179869184 := by omega
      have hk0 : ky = 0 ∨ kz = 0 := by omega
      have q1 := Kd.R_reads' R1.out
      have q2 := Kd.R_reads' R2.out
      have QA := yk (fun (m : World) (hm : Below wc.heap.size wc m) => shl_any (limbs (cman y)) A1 n1 c1 ky q1.1.symm m (Kd.C_below (by rw [q1.1]; exact q1.2.2) hm) q1.2.1 (wf_limbs _) (by omega) (by omega))
      have QB := yk (fun (m : World) (hm : Below wc.heap.size wc m) => shl_any (limbs (cman z)) A2 n2 c2 kz q2.1.symm m (Kd.C_below (by rw [q2.1]; exact q2.2.2) hm) q2.2.1 (wf_limbs _) (by omega) (by omega))
      rw [nv_limbs] at QA QB
      obtain ⟨my, hmy⟩ : ∃ m, m = cman y * 2 ^ ky := ⟨_, rfl⟩
      obtain ⟨mz, hmz⟩ : ∃ m, m = cman z * 2 ^ kz := ⟨_, rfl⟩
      rw [← hmy] at QA
      rw [← hmz] at QB
      have HMY := yk hmy
      have HMZ := yk hmz
      have ly : (limbs my).length ≤ 536870920 := by
       refine Nat.le_trans (limbs_len_le (k := (limbs (cman y)).length + (ky / 64 + 1)) ?_) (by omega)
       have h1 := nv_lt (wf_limbs (cman y))
       rw [nv_limbs] at h1
       rw [hmy, Nat.mul_add, Nat.pow_add]
       exact Nat.mul_lt_mul'' h1 (Nat.pow_lt_pow_right (by decide) (by omega))
      have lz : (limbs mz).length ≤ 536870920 := by
       refine Nat.le_trans (limbs_len_le (k := (limbs (cman z)).length + (kz / 64 + 1)) ?_) (by omega)
       have h1 := nv_lt (wf_limbs (cman z))
       rw [nv_limbs] at h1
       rw [hmz, Nat.mul_add, Nat.pow_add]
       exact Nat.mul_lt_mul'' h1 (Nat.pow_lt_pow_right (by decide) (by omega))
      clear q1 q2 hmy hmz
      go_upto_region 9 with (first
       | (go_at_call 102; with_reducible refine (QA.out _ yr).mono ?_; rintro en w2 ⟨q, rfl, hr, hb⟩; obtain ⟨A3, c3, rfl, hc3, hC3⟩ := Kd.R_reads hr; have R3 := yk hr; have B2 := yk hb; obtain ⟨f0_2, _⟩ := box_cell (v := .bool (cneg z)) (yb H6.out hb) 0 rfl; obtain ⟨f1_2, _⟩ := box_cell (v := .slice A2 n2 c2) (yb H6.out hb) 1 rfl; obtain ⟨f2_2, _⟩ := box_cell (v := .int .i64 xz) (yb H6.out hb) 2 rfl; clear hr hb hC3)
       | (go_at_call 102; with_reducible refine (QB.out _ B2.out).mono ?_; rintro en w3 ⟨q, rfl, hr, hb⟩; obtain ⟨A4, c4, rfl, hc4, hC4⟩ := Kd.R_reads hr; have R4 := yk hr; have B3 := yk (below_then B2.out B2.out.size hb); have R3' := yk (Kd.R_below R3.out hb); obtain ⟨d0_3, _⟩ := box_cell (v := .bool (cneg y)) (yb (yb H5.out B2.out) hb) 0 rfl; obtain ⟨f0_3, _⟩ := box_cell (v := .bool (cneg z)) (yb (yb H6.out B2.out) hb) 0 rfl; clear hr hb hC4))
      have HRES3 := yk (yb HRES.out B3.out)
      have BW3 := yk (below_then BW.out BW.out.size B3.out)
      have BS3 : W0.heap.size ≤ w3.heap.size := Nat.le_trans HB.out.size B3.out.size
      have R3' := yk (Kd.R_lower R3'.out HB.out.size)
      have R4 := yk (Kd.R_lower R4.out (Nat.le_trans HB.out.size B2.out.size))
      obtain ⟨j0, hj0, hfy, hfz⟩ := plus_form (e := e) (E := E) (ky := ky) (kz := kz) hy hz (by rw [← HXY.out]; exact hky) (by rw [← HXZ.out]; exact hkz) hk0
      rw [← HMY.out] at hfy
      rw [← HMZ.out] at hfz
      have HJ := yk (ya hj0 (ya hfy hfz))
      clear hj0 hfy hfz hky hkz
      by_cases hs : cneg y = cneg z
      · have hs' : (cneg y == cneg z) = true := by simp [hs]
        have HS := yk hs
        have hlen : (limbs (my + mz)).length ≤ 1073741824 := by
         refine Nat.le_trans (limbs_len_le (k := max (limbs my).length (limbs mz).length + 1) ?_) (by omega)
         have h1 := nv_lt (wf_limbs my)
         have h2 := nv_lt (wf_limbs mz)
         rw [nv_limbs] at h1 h2
         have h3 : 2 ^ (64 * (limbs my).length) ≤ 2 ^ (64 * max (limbs my).length (limbs mz).length) := Nat.pow_le_pow_right (by decide) (by omega)
         have h4 : 2 ^ (64 * (limbs mz).length) ≤ 2 ^ (64 * max (limbs my).length (limbs mz).length) := Nat.pow_le_pow_right (by decide) (by omega)
         rw [pw]
         omega
        clear hs
        have FIN : ∀ {W : World} {cs : Array Value}, RDy W W0.heap.size (.agg cs) (sgn (cneg y) (my + mz)) E → RDy W W0.heap.size (.agg cs) (y + z) e := by
         intro W cs h
         obtain ⟨q1, q2, q3⟩ := HJ.out
         rw [q1] at h
         have := RDy.scale j0 h
         rw [sgn_add, Int.add_mul, ← q2] at this
         have q4 : sgn (cneg y) mz * 2 ^ j0 = z := by rw [HS.out]; exact q3.symm
         rw [q4] at this
         exact this
        go_upto_region 10 with fail
        have hng : w.heap.size + 1 + 1 ≠ g5 := by omega
        refine wp_region_slots [49, 50, 51, 52, 53, 54, 55] (by kernel_rfl) (by kernel_rfl)
         (F := fun j q W => match j with | 0 => q = .pointer (some ⟨g5, 0, none⟩) | 1 => q = .bool (cneg y) | 2 => q = .slice A3 (limbs my).length c3 | 3 => q = .slice A4 (limbs mz).length c4 | 5 => q = .int .i64 E | 4 => kU.R 23 W W0.heap.size (fun _ => True) q (limbs (my + mz)) | 6 => RDy W W0.heap.size q (sgn (cneg y) (my + mz)) E | 7 => ∃ cs, W.heap[w.heap.size + 1 + 1]? = some (.cells cs 27 (0, 0)) ∧ cs.size = 3 ∧ RDy W W0.heap.size (.agg cs) (sgn (cneg y) (my + mz)) E | _ => True)
         (J := fun W => W.heap[g5]? = some (.cells #[.bool (cneg y), .slice A1 n1 c1, .int .i64 xy] 27 (0, 0)) ∧ (∃ cs, W.heap[w.heap.size + 1 + 1]? = some (.cells cs 27 (0, 0)) ∧ cs.size = 3) ∧ kU.R 23 W W0.heap.size (fun _ => True) (.slice A3 (limbs my).length c3) (limbs my) ∧ kU.R 23 W W0.heap.size (fun _ => True) (.slice A4 (limbs mz).length c4) (limbs mz) ∧ Below w.heap.size w W ∧ W0.heap.size ≤ W.heap.size)
         ?hJ ?hstep ?hend
        case hJ => exact ⟨blk_drew (yb H5.out B3.out), ⟨_, blk_drew HRES3.out, rfl⟩, Kd.R_drew R3'.out, Kd.R_drew R4.out, below_drew BW3.out, BS3⟩
        case hstep =>
         intro k o ho v W L hJW hF hnk haft K hK
         obtain ⟨hg, ⟨cs0, hres, hcs0⟩, r3, r4, hB, hSZ⟩ := id hJW
         rcases k with _ | _ | _ | _ | _ | _ | _ | _ | k
         all_goals first
          | (cases ho; done)
          | (obtain rfl := (Option.some.inj ho).symm
             clear ho
             rw [if_pos (by rfl)]
             simp only [setAll, List.setIfInBounds_toArray, List.set_cons_zero, List.set_cons_succ, List.getElem_toArray, List.getElem_cons_zero, List.getElem_cons_succ, Nat.reduceAdd] at haft hF hK ⊢)
         ·
          have key := hK.out (.pointer (some ⟨g5, 0, none⟩)) W hJW (fun _ _ h => h) rfl
          go_simp
          simpa [upd] using key
         ·
          have f0 : v 0 = .pointer (some ⟨g5, 0, none⟩) := hF 0 (haft ⟨0, .data⟩ (by simp) rfl)
          have cc := (box_cell (v := .bool (cneg y)) hg 0 rfl).1
          have key := hK.out (.bool (cneg y)) W hJW (fun _ _ h => h) rfl
          go_simp
          simpa [upd, f0] using key
         ·
          have key := hK.out (.slice A3 (limbs my).length c3) W hJW (fun _ _ h => h) rfl
          go_simp
          simpa [upd] using key
         ·
          have key := hK.out (.slice A4 (limbs mz).length c4) W hJW (fun _ _ h => h) rfl
          go_simp
          simpa [upd] using key
         ·
          have f2 : v 2 = .slice A3 (limbs my).length c3 := hF 2 (haft ⟨2, .data⟩ (by simp) rfl)
          have f3 : v 3 = .slice A4 (limbs mz).length c4 := hF 3 (haft ⟨3, .data⟩ (by simp) rfl)
          obtain ⟨e1, e2, e3⟩ := Kd.R_reads' r3
          obtain ⟨e1', e2', e3'⟩ := Kd.R_reads' r4
          have hm := add_any (limbs my) (limbs mz) A3 A4 (limbs my).length (limbs mz).length c3 c4 rfl rfl W e3 e3' e2 e2' (wf_limbs _) (wf_limbs _) (by omega) (by omega)
          simp only [nv_limbs] at hm
          clear e1 e2 e3 e1' e2' e3'
          go_simp
          go_at_call 104
          refine hm.mono ?_
          rintro en w4 ⟨v1, rfl, hr, hb⟩
          have key := hK.out v1 w4 ⟨yb hg hb, ⟨_, yb hres hb, hcs0⟩, Kd.R_below r3 hb, Kd.R_below r4 hb, below_then hB hB.size hb, Nat.le_trans hSZ hb.size⟩ ?m10a (Kd.R_lower hr hSZ)
          · simpa [upd, f2, f3] using key
          intro j hj hf
          rcases j with _ | _ | _ | _ | _ | _ | _ | _ | j <;> first | exact hf | exact Kd.R_below hf hb | exact RDy.below hf hb | exact (let ⟨cs, p1, p2, p3⟩ := hf; ⟨cs, yb p1 hb, p2, p3.below hb⟩)
         ·
          have key := hK.out (.int .i64 E) W hJW (fun _ _ h => h) rfl
          go_simp
          simpa [upd] using key
         ·
          have f1 : v 1 = .bool (cneg y) := hF 1 (haft ⟨1, .data⟩ (by simp) rfl)
          have f4 : kU.R 23 W W0.heap.size (fun _ => True) (v 4) (limbs (my + mz)) := hF 4 (haft ⟨4, .data⟩ (by simp) rfl)
          have f5 : v 5 = .int .i64 E := hF 5 (haft ⟨5, .data⟩ (by simp) rfl)
          obtain ⟨A5, c5, f4', hc5, hC5⟩ := Kd.R_reads f4
          have hm := form_any (cneg y) (limbs (my + mz)) A5 _ c5 E rfl W hC5 hc5 (wf_limbs _) (by exact hlen) (by omega) (by omega)
          rw [nv_limbs] at hm
          clear f4
          go_simp
          go_at_call 42
          refine hm.mono ?_
          rintro en w4 ⟨v1, rfl, hr, hb⟩
          have key := hK.out v1 w4 ⟨yb hg hb, ⟨_, yb hres hb, hcs0⟩, Kd.R_below r3 hb, Kd.R_below r4 hb, below_then hB hB.size hb, Nat.le_trans hSZ hb.size⟩ ?m10b (hr.lower hSZ)
          · simpa [upd, f1, f4', f5] using key
          intro j hj hf
          rcases j with _ | _ | _ | _ | _ | _ | _ | _ | j <;> first | exact hf | exact Kd.R_below hf hb | exact RDy.below hf hb | exact (let ⟨cs, p1, p2, p3⟩ := hf; ⟨cs, yb p1 hb, p2, p3.below hb⟩)
         ·
          have f6 : RDy W W0.heap.size (v 6) (sgn (cneg y) (my + mz)) E := hF 6 (haft ⟨6, .data⟩ (by simp) rfl)
          obtain ⟨A5, m5, c5, f6', hr5⟩ := id f6
          refine wp_store_box 27 4 (.tmp 55) rfl rfl (g := w.heap.size + 1 + 1) (e := 27) (v 6) [.bool (cneg (sgn (cneg y) (my + mz))), .slice A5 m5 c5, .int .i64 (cexp (sgn (cneg y) (my + mz)) E)] rfl rfl (by rw [f6']; rfl) info_dyad ?_ hres hcs0 ?_
          · intro q hq; simp at hq; rcases hq with rfl | rfl | rfl <;> rfl
          · intro w4 hw4 hg4
            have hnew := f6.typed hres hg4
            rw [f6'] at hnew
            have key := hK.out undef w4 ⟨(hg4.block g5 (blk_lt hg) (fun he => by cases he; omega)).trans hg, ⟨_, hw4, rfl⟩, row_typed r3 hres hg4, row_typed r4 hres hg4, hB.grown hg4 hB.size (fun k hk => by cases hk; omega), Nat.le_trans hSZ hg4.size⟩ ?m10c ⟨_, hw4, rfl, hnew⟩
            · simpa [upd] using key
            intro j hj hf
            rcases j with _ | _ | _ | _ | _ | _ | _ | _ | j <;> first | exact absurd hj hnk | exact hf | exact row_typed hf hres hg4 | exact RDy.typed hf hres hg4
        case hend =>
         intro v W hJW hF
         obtain ⟨_, _, _, _, hB, hSZ⟩ := hJW
         obtain ⟨cs, p1, p2, p3⟩ := hF 7 (by decide)
         simp only [setAll, List.setIfInBounds_toArray, List.set_cons_zero, List.set_cons_succ]
         go_wp2
         refine bodyPost_ret (results_dyad rfl _ _ (w.heap.size + 1 + 1) _ rfl p1 p2) rfl ?_
         refine ⟨_, rfl, RDy.lower ?_ HW.out.size, hB⟩
         exact FIN p3
      · have hs' : (cneg y == cneg z) = false := by simp [hs]
        have HS := yk hs
        clear hs
        have ra := Kd.R_reads' R3'.out
        have rb := Kd.R_reads' R4.out
        have QC := yk (fun (m : World) (hm : Below w3.heap.size w3 m) => cmp_any (limbs my) (limbs mz) A3 A4 c3 c4 m (Kd.C_below ra.2.2 hm) (Kd.C_below rb.2.2 hm) ra.2.1 rb.2.1 (wf_limbs _) (wf_limbs _) (by omega) (by omega))
        simp only [nv_limbs] at QC
        clear ra rb
        by_cases hmm : my < mz
        · have HC := yk (show cmpN my mz = -1 by unfold cmpN; rw [if_pos hmm])
          rw [HC.out] at QC
          have HM := yk hmm
          have hlen : (limbs (mz - my)).length ≤ 1073741824 := by
           refine Nat.le_trans (limbs_len_le (k := (limbs mz).length) ?_) (by omega)
           have h2 := nv_lt (wf_limbs mz)
           rw [nv_limbs] at h2
           omega
          clear hmm
          have FIN : ∀ {W : World} {cs : Array Value}, RDy W W0.heap.size (.agg cs) (sgn (cneg z) (mz - my)) E → RDy W W0.heap.size (.agg cs) (y + z) e := by
           intro W cs h
           obtain ⟨q1, q2, q3⟩ := HJ.out
           rw [q1] at h
           have := RDy.scale j0 h
           rw [sgn_sub (Ne.symm HS.out) (Nat.le_of_lt HM.out), Int.add_mul, ← q2, ← q3, Int.add_comm] at this
           exact this
          go_upto_region 13 with (go_at_call 105; refine (QC.out _ yr).mono ?_; rintro en w' ⟨rfl, nn, rfl⟩)
          have B4 : Aside0 (Below wc.heap.size wc (w3.drewN nn)) := ⟨pw_below_drewN B3.out nn⟩
          have HRES4 := yk (blk_drewN HRES3.out nn)
          have BW4 := yk (pw_below_drewN BW3.out nn)
          have BS4 : W0.heap.size ≤ (w3.drewN nn).heap.size := BS3
          have R4' := yk (Kd.R_drewN R4.out nn)
          have R3'' := yk (Kd.R_drewN R3'.out nn)
          have hng : w.heap.size + 1 + 1 ≠ g6 := by omega
          refine wp_region_slots [68, 69, 70, 71, 72, 73, 74] (by kernel_rfl) (by kernel_rfl)
           (F := fun j q W => match j with | 0 => q = .pointer (some ⟨g6, 0, none⟩) | 1 => q = .bool (cneg z) | 2 => q = .slice A4 (limbs mz).length c4 | 3 => q = .slice A3 (limbs my).length c3 | 5 => q = .int .i64 E | 4 => kU.R 23 W W0.heap.size (fun _ => True) q (limbs (mz - my)) | 6 => RDy W W0.heap.size q (sgn (cneg z) (mz - my)) E | 7 => ∃ cs, W.heap[w.heap.size + 1 + 1]? = some (.cells cs 27 (0, 0)) ∧ cs.size = 3 ∧ RDy W W0.heap.size (.agg cs) (sgn (cneg z) (mz - my)) E | _ => True)
           (J := fun W => W.heap[g6]? = some (.cells #[.bool (cneg z), .slice A2 n2 c2, .int .i64 xz] 27 (0, 0)) ∧ (∃ cs, W.heap[w.heap.size + 1 + 1]? = some (.cells cs 27 (0, 0)) ∧ cs.size = 3) ∧ kU.R 23 W W0.heap.size (fun _ => True) (.slice A4 (limbs mz).length c4) (limbs mz) ∧ kU.R 23 W W0.heap.size (fun _ => True) (.slice A3 (limbs my).length c3) (limbs my) ∧ Below w.heap.size w W ∧ W0.heap.size ≤ W.heap.size)
           ?hJ ?hstep ?hend
          case hJ => exact ⟨blk_drew (yb H6.out B4.out), ⟨_, blk_drew HRES4.out, rfl⟩, Kd.R_drew R4'.out, Kd.R_drew R3''.out, below_drew BW4.out, BS4⟩
          case hstep =>
           intro k o ho v W L hJW hF hnk haft K hK
           obtain ⟨hg, ⟨cs0, hres, hcs0⟩, r3, r4, hB, hSZ⟩ := id hJW
           rcases k with _ | _ | _ | _ | _ | _ | _ | _ | k
           all_goals first
            | (cases ho; done)
            | (obtain rfl := (Option.some.inj ho).symm
               clear ho
               rw [if_pos (by rfl)]
               simp only [setAll, List.setIfInBounds_toArray, List.set_cons_zero, List.set_cons_succ, List.getElem_toArray, List.getElem_cons_zero, List.getElem_cons_succ, Nat.reduceAdd] at haft hF hK ⊢)
           ·
            have key := hK.out (.pointer (some ⟨g6, 0, none⟩)) W hJW (fun _ _ h => h) rfl
            go_simp
            simpa [upd] using key
           ·
            have f0 : v 0 = .pointer (some ⟨g6, 0, none⟩) := hF 0 (haft ⟨0, .data⟩ (by simp) rfl)
            have cc := (box_cell (v := .bool (cneg z)) hg 0 rfl).1
            have key := hK.out (.bool (cneg z)) W hJW (fun _ _ h => h) rfl
            go_simp
            simpa [upd, f0] using key
           ·
            have key := hK.out (.slice A4 (limbs mz).length c4) W hJW (fun _ _ h => h) rfl
            go_simp
            simpa [upd] using key
           ·
            have key := hK.out (.slice A3 (limbs my).length c3) W hJW (fun _ _ h => h) rfl
            go_simp
            simpa [upd] using key
           ·
            have f2 : v 2 = .slice A4 (limbs mz).length c4 := hF 2 (haft ⟨2, .data⟩ (by simp) rfl)
            have f3 : v 3 = .slice A3 (limbs my).length c3 := hF 3 (haft ⟨3, .data⟩ (by simp) rfl)
            obtain ⟨e1, e2, e3⟩ := Kd.R_reads' r3
            obtain ⟨e1', e2', e3'⟩ := Kd.R_reads' r4
            have hm := sub_any (limbs mz) (limbs my) A4 A3 (limbs mz).length (limbs my).length c4 c3 rfl rfl W e3 e3' e2 e2' (wf_limbs _) (wf_limbs _) (by omega) (by omega) (by simp only [nv_limbs]; exact Nat.le_of_lt HM.out)
            simp only [nv_limbs] at hm
            clear e1 e2 e3 e1' e2' e3'
            go_simp
            go_at_call 106
            refine hm.mono ?_
            rintro en w4 ⟨v1, rfl, hr, hb⟩
            have key := hK.out v1 w4 ⟨yb hg hb, ⟨_, yb hres hb, hcs0⟩, Kd.R_below r3 hb, Kd.R_below r4 hb, below_then hB hB.size hb, Nat.le_trans hSZ hb.size⟩ ?m13a (Kd.R_lower hr hSZ)
            · simpa [upd, f2, f3] using key
            intro j hj hf
            rcases j with _ | _ | _ | _ | _ | _ | _ | _ | j <;> first | exact hf | exact Kd.R_below hf hb | exact RDy.below hf hb | exact (let ⟨cs, p1, p2, p3⟩ := hf; ⟨cs, yb p1 hb, p2, p3.below hb⟩)
           ·
            have key := hK.out (.int .i64 E) W hJW (fun _ _ h => h) rfl
            go_simp
            simpa [upd] using key
           ·
            have f1 : v 1 = .bool (cneg z) := hF 1 (haft ⟨1, .data⟩ (by simp) rfl)
            have f4 : kU.R 23 W W0.heap.size (fun _ => True) (v 4) (limbs (mz - my)) := hF 4 (haft ⟨4, .data⟩ (by simp) rfl)
            have f5 : v 5 = .int .i64 E := hF 5 (haft ⟨5, .data⟩ (by simp) rfl)
            obtain ⟨A5, c5, f4', hc5, hC5⟩ := Kd.R_reads f4
            have hm := form_any (cneg z) (limbs (mz - my)) A5 _ c5 E rfl W hC5 hc5 (wf_limbs _) (by exact hlen) (by omega) (by omega)
            rw [nv_limbs] at hm
            clear f4
            go_simp
            go_at_call 42
            refine hm.mono ?_
            rintro en w4 ⟨v1, rfl, hr, hb⟩
            have key := hK.out v1 w4 ⟨yb hg hb, ⟨_, yb hres hb, hcs0⟩, Kd.R_below r3 hb, Kd.R_below r4 hb, below_then hB hB.size hb, Nat.le_trans hSZ hb.size⟩ ?m13b (hr.lower hSZ)
            · simpa [upd, f1, f4', f5] using key
            intro j hj hf
            rcases j with _ | _ | _ | _ | _ | _ | _ | _ | j <;> first | exact hf | exact Kd.R_below hf hb | exact RDy.below hf hb | exact (let ⟨cs, p1, p2, p3⟩ := hf; ⟨cs, yb p1 hb, p2, p3.below hb⟩)
           ·
            have f6 : RDy W W0.heap.size (v 6) (sgn (cneg z) (mz - my)) E := hF 6 (haft ⟨6, .data⟩ (by simp) rfl)
            obtain ⟨A5, m5, c5, f6', hr5⟩ := id f6
            refine wp_store_box 27 4 (.tmp 74) rfl rfl (g := w.heap.size + 1 + 1) (e := 27) (v 6) [.bool (cneg (sgn (cneg z) (mz - my))), .slice A5 m5 c5, .int .i64 (cexp (sgn (cneg z) (mz - my)) E)] rfl rfl (by rw [f6']; rfl) info_dyad ?_ hres hcs0 ?_
            · intro q hq; simp at hq; rcases hq with rfl | rfl | rfl <;> rfl
            · intro w4 hw4 hg4
              have hnew := f6.typed hres hg4
              rw [f6'] at hnew
              have key := hK.out undef w4 ⟨(hg4.block g6 (blk_lt hg) (fun he => by cases he; omega)).trans hg, ⟨_, hw4, rfl⟩, row_typed r3 hres hg4, row_typed r4 hres hg4, hB.grown hg4 hB.size (fun k hk => by cases hk; omega), Nat.le_trans hSZ hg4.size⟩ ?m13c ⟨_, hw4, rfl, hnew⟩
              · simpa [upd] using key
              intro j hj hf
              rcases j with _ | _ | _ | _ | _ | _ | _ | _ | j <;> first | exact absurd hj hnk | exact hf | exact row_typed hf hres hg4 | exact RDy.typed hf hres hg4
          case hend =>
           intro v W hJW hF
           obtain ⟨_, _, _, _, hB, hSZ⟩ := hJW
           obtain ⟨cs, p1, p2, p3⟩ := hF 7 (by decide)
           simp only [setAll, List.setIfInBounds_toArray, List.set_cons_zero, List.set_cons_succ]
           go_wp2
           refine bodyPost_ret (results_dyad rfl _ _ (w.heap.size + 1 + 1) _ rfl p1 p2) rfl ?_
           refine ⟨_, rfl, RDy.lower ?_ HW.out.size, hB⟩
           exact FIN p3
        · have HC := yk (show 0 ≤ cmpN my mz by unfold cmpN; rw [if_neg hmm]; split <;> decide)
          obtain ⟨cv, hcv⟩ : ∃ x, x = cmpN my mz := ⟨_, rfl⟩
          rw [← hcv] at QC HC
          have hcp : 0 ≤ cv := HC.out
          have HM := yk (show mz ≤ my by omega)
          have hlen : (limbs (my - mz)).length ≤ 1073741824 := by
           refine Nat.le_trans (limbs_len_le (k := (limbs my).length) ?_) (by omega)
           have h2 := nv_lt (wf_limbs my)
           rw [nv_limbs] at h2
           omega
          clear hmm hcv
          have FIN : ∀ {W : World} {cs : Array Value}, RDy W W0.heap.size (.agg cs) (sgn (cneg y) (my - mz)) E → RDy W W0.heap.size (.agg cs) (y + z) e := by
           intro W cs h
           obtain ⟨q1, q2, q3⟩ := HJ.out
           rw [q1] at h
           have := RDy.scale j0 h
           rw [sgn_sub HS.out HM.out, Int.add_mul, ← q2, ← q3] at this
           exact this
          go_upto_region 12 with (go_at_call 105; refine (QC.out _ yr).mono ?_; rintro en w' ⟨rfl, nn, rfl⟩)
          have B4 : Aside0 (Below wc.heap.size wc (w3.drewN nn)) := ⟨pw_below_drewN B3.out nn⟩
          have HRES4 := yk (blk_drewN HRES3.out nn)
          have BW4 := yk (pw_below_drewN BW3.out nn)
          have BS4 : W0.heap.size ≤ (w3.drewN nn).heap.size := BS3
          have R4' := yk (Kd.R_drewN R4.out nn)
          have R3'' := yk (Kd.R_drewN R3'.out nn)
          have hng : w.heap.size + 1 + 1 ≠ g5 := by omega
          refine wp_region_slots [61, 62, 63, 64, 65, 66, 67] (by kernel_rfl) (by kernel_rfl)
           (F := fun j q W => match j with | 0 => q = .pointer (some ⟨g5, 0, none⟩) | 1 => q = .bool (cneg y) | 2 => q = .slice A3 (limbs my).length c3 | 3 => q = .slice A4 (limbs mz).length c4 | 5 => q = .int .i64 E | 4 => kU.R 23 W W0.heap.size (fun _ => True) q (limbs (my - mz)) | 6 => RDy W W0.heap.size q (sgn (cneg y) (my - mz)) E | 7 => ∃ cs, W.heap[w.heap.size + 1 + 1]? = some (.cells cs 27 (0, 0)) ∧ cs.size = 3 ∧ RDy W W0.heap.size (.agg cs) (sgn (cneg y) (my - mz)) E | _ => True)
           (J := fun W => W.heap[g5]? = some (.cells #[.bool (cneg y), .slice A1 n1 c1, .int .i64 xy] 27 (0, 0)) ∧ (∃ cs, W.heap[w.heap.size + 1 + 1]? = some (.cells cs 27 (0, 0)) ∧ cs.size = 3) ∧ kU.R 23 W W0.heap.size (fun _ => True) (.slice A3 (limbs my).length c3) (limbs my) ∧ kU.R 23 W W0.heap.size (fun _ => True) (.slice A4 (limbs mz).length c4) (limbs mz) ∧ Below w.heap.size w W ∧ W0.heap.size ≤ W.heap.size)
           ?hJ ?hstep ?hend
          case hJ => exact ⟨blk_drew (yb H5.out B4.out), ⟨_, blk_drew HRES4.out, rfl⟩, Kd.R_drew R3''.out, Kd.R_drew R4'.out, below_drew BW4.out, BS4⟩
          case hstep =>
           intro k o ho v W L hJW hF hnk haft K hK
           obtain ⟨hg, ⟨cs0, hres, hcs0⟩, r3, r4, hB, hSZ⟩ := id hJW
           rcases k with _ | _ | _ | _ | _ | _ | _ | _ | k
           all_goals first
            | (cases ho; done)
            | (obtain rfl := (Option.some.inj ho).symm
               clear ho
               rw [if_pos (by rfl)]
               simp only [setAll, List.setIfInBounds_toArray, List.set_cons_zero, List.set_cons_succ, List.getElem_toArray, List.getElem_cons_zero, List.getElem_cons_succ, Nat.reduceAdd] at haft hF hK ⊢)
           ·
            have key := hK.out (.pointer (some ⟨g5, 0, none⟩)) W hJW (fun _ _ h => h) rfl
            go_simp
            simpa [upd] using key
           ·
            have f0 : v 0 = .pointer (some ⟨g5, 0, none⟩) := hF 0 (haft ⟨0, .data⟩ (by simp) rfl)
            have cc := (box_cell (v := .bool (cneg y)) hg 0 rfl).1
            have key := hK.out (.bool (cneg y)) W hJW (fun _ _ h => h) rfl
            go_simp
            simpa [upd, f0] using key
           ·
            have key := hK.out (.slice A3 (limbs my).length c3) W hJW (fun _ _ h => h) rfl
            go_simp
            simpa [upd] using key
           ·
            have key := hK.out (.slice A4 (limbs mz).length c4) W hJW (fun _ _ h => h) rfl
            go_simp
            simpa [upd] using key
           ·
            have f2 : v 2 = .slice A3 (limbs my).length c3 := hF 2 (haft ⟨2, .data⟩ (by simp) rfl)
            have f3 : v 3 = .slice A4 (limbs mz).length c4 := hF 3 (haft ⟨3, .data⟩ (by simp) rfl)
            obtain ⟨e1, e2, e3⟩ := Kd.R_reads' r3
            obtain ⟨e1', e2', e3'⟩ := Kd.R_reads' r4
            have hm := sub_any (limbs my) (limbs mz) A3 A4 (limbs my).length (limbs mz).length c3 c4 rfl rfl W e3 e3' e2 e2' (wf_limbs _) (wf_limbs _) (by omega) (by omega) (by simp only [nv_limbs]; exact HM.out)
            simp only [nv_limbs] at hm
            clear e1 e2 e3 e1' e2' e3'
            go_simp
            go_at_call 106
            refine hm.mono ?_
            rintro en w4 ⟨v1, rfl, hr, hb⟩
            have key := hK.out v1 w4 ⟨yb hg hb, ⟨_, yb hres hb, hcs0⟩, Kd.R_below r3 hb, Kd.R_below r4 hb, below_then hB hB.size hb, Nat.le_trans hSZ hb.size⟩ ?m12a (Kd.R_lower hr hSZ)
            · simpa [upd, f2, f3] using key
            intro j hj hf
            rcases j with _ | _ | _ | _ | _ | _ | _ | _ | j <;> first | exact hf | exact Kd.R_below hf hb | exact RDy.below hf hb | exact (let ⟨cs, p1, p2, p3⟩ := hf; ⟨cs, yb p1 hb, p2, p3.below hb⟩)
           ·
            have key := hK.out (.int .i64 E) W hJW (fun _ _ h => h) rfl
            go_simp
            simpa [upd] using key
           ·
            have f1 : v 1 = .bool (cneg y) := hF 1 (haft ⟨1, .data⟩ (by simp) rfl)
            have f4 : kU.R 23 W W0.heap.size (fun _ => True) (v 4) (limbs (my - mz)) := hF 4 (haft ⟨4, .data⟩ (by simp) rfl)
            have f5 : v 5 = .int .i64 E := hF 5 (haft ⟨5, .data⟩ (by simp) rfl)
            obtain ⟨A5, c5, f4', hc5, hC5⟩ := Kd.R_reads f4
            have hm := form_any (cneg y) (limbs (my - mz)) A5 _ c5 E rfl W hC5 hc5 (wf_limbs _) (by exact hlen) (by omega) (by omega)
            rw [nv_limbs] at hm
            clear f4
            go_simp
            go_at_call 42
            refine hm.mono ?_
            rintro en w4 ⟨v1, rfl, hr, hb⟩
            have key := hK.out v1 w4 ⟨yb hg hb, ⟨_, yb hres hb, hcs0⟩, Kd.R_below r3 hb, Kd.R_below r4 hb, below_then hB hB.size hb, Nat.le_trans hSZ hb.size⟩ ?m12b (hr.lower hSZ)
            · simpa [upd, f1, f4', f5] using key
            intro j hj hf
            rcases j with _ | _ | _ | _ | _ | _ | _ | _ | j <;> first | exact hf | exact Kd.R_below hf hb | exact RDy.below hf hb | exact (let ⟨cs, p1, p2, p3⟩ := hf; ⟨cs, yb p1 hb, p2, p3.below hb⟩)
           ·
            have f6 : RDy W W0.heap.size (v 6) (sgn (cneg y) (my - mz)) E := hF 6 (haft ⟨6, .data⟩ (by simp) rfl)
            obtain ⟨A5, m5, c5, f6', hr5⟩ := id f6
            refine wp_store_box 27 4 (.tmp 67) rfl rfl (g := w.heap.size + 1 + 1) (e := 27) (v 6) [.bool (cneg (sgn (cneg y) (my - mz))), .slice A5 m5 c5, .int .i64 (cexp (sgn (cneg y) (my - mz)) E)] rfl rfl (by rw [f6']; rfl) info_dyad ?_ hres hcs0 ?_
            · intro q hq; simp at hq; rcases hq with rfl | rfl | rfl <;> rfl
            · intro w4 hw4 hg4
              have hnew := f6.typed hres hg4
              rw [f6'] at hnew
              have key := hK.out undef w4 ⟨(hg4.block g5 (blk_lt hg) (fun he => by cases he; omega)).trans hg, ⟨_, hw4, rfl⟩, row_typed r3 hres hg4, row_typed r4 hres hg4, hB.grown hg4 hB.size (fun k hk => by cases hk; omega), Nat.le_trans hSZ hg4.size⟩ ?m12c ⟨_, hw4, rfl, hnew⟩
              · simpa [upd] using key
              intro j hj hf
              rcases j with _ | _ | _ | _ | _ | _ | _ | _ | j <;> first | exact absurd hj hnk | exact hf | exact row_typed hf hres hg4 | exact RDy.typed hf hres hg4
          case hend =>
           intro v W hJW hF
           obtain ⟨_, _, _, _, hB, hSZ⟩ := hJW
           obtain ⟨cs, p1, p2, p3⟩ := hF 7 (by decide)
           simp only [setAll, List.setIfInBounds_toArray, List.set_cons_zero, List.set_cons_succ]
           go_wp2
           refine bodyPost_ret (results_dyad rfl _ _ (w.heap.size + 1 + 1) _ rfl p1 p2) rfl ?_
           refine ⟨_, rfl, RDy.lower ?_ HW.out.size, hB⟩
           exact FIN p3
theorem ord_topn {y z e s : Int} (h1 : sgnI y = s) (h2 : sgnI z = s) (hs : s = 1 ∨ s = -1) (h : e + bl z.natAbs - 1 < e + bl y.natAbs - 1) : sgnI (y - z) = s :=
 ord_top (e := e) h1 h2 hs (by rw [top_form (sgn_ne h1 hs), top_form (sgn_ne h2 hs)]; exact h)
theorem less_nd {u v : Value} {y z e : Int} {w : World} (h : NDy w u y e) (h' : NDy w v z e) (o : Ok y e) (o' : Ok z e) :
 Calls Tryz.prog 93 #[u, v] w fun en w' => ∃ v', en = .returned v' ∧ RDy w' w.heap.size v' (y - z) e ∧ Below w.heap.size w w' := by
 obtain ⟨b0, A, n0, c, x0, rfl⟩ := h.ex
 obtain ⟨b1, A1, n1, c1, x1, rfl⟩ := h'.ex
 have QN := yk (fun (W : World) (hb : Below w.heap.size w W) => neg_nd (h'.below hb))
 have QP := yk (fun (W : World) (hb : Below w.heap.size w W) (v1 : Value) (h1 : RDy W w.heap.size v1 (-z) e) => (by
  have q := plus_nd (h.below hb) (h1.c.nd o'.neg) o.len28 o'.neg.len28 o.lo33 o.hi33 o'.neg.lo33 o'.neg.hi33
  rw [show y + -z = y - z from by omega] at q
  exact q : Calls Tryz.prog 84 #[.agg #[.bool b0, .slice A n0 c, .int .i64 x0], v1] W fun en w' => ∃ v', en = .returned v' ∧ RDy w' W.heap.size v' (y - z) e ∧ Below W.heap.size W w'))
 clear h h' o o'
 go_enter Tryz.func93, Tryz.ntmps93
 go_upto_region 1 with fail
 obtain ⟨BEL, X0, X1, XR⟩ := al3 w 3 #[.bool b0, .slice A n0 c, .int .i64 x0] 27 #[.bool b1, .slice A1 n1 c1, .int .i64 x1] 27 #[.bool false, .slice none 0 0, .int .i64 0] 27
 obtain ⟨GM, hGM⟩ : ∃ G : (Nat → Prop) → (Nat → Value) → World → Prop, G = fun L v W => BelN w 3 W ∧ W.heap[w.heap.size]? = some (.cells #[.bool b0, .slice A n0 c, .int .i64 x0] 27 (0, 0)) ∧ W.heap[w.heap.size + 1]? = some (.cells #[.bool b1, .slice A1 n1 c1, .int .i64 x1] 27 (0, 0)) ∧ (L 0 → (v 0) = .agg #[.bool b0, .slice A n0 c, .int .i64 x0]) ∧ (L 1 → (v 1) = .agg #[.bool b1, .slice A1 n1 c1, .int .i64 x1]) ∧ (L 2 → RDy W w.heap.size (v 2) (-z) e) ∧ (L 3 → RDy W w.heap.size (v 3) (y - z) e) ∧ ((¬ L 4 → W.heap[w.heap.size + 1 + 1]? = some (.cells #[.bool false, .slice none 0 0, .int .i64 0] 27 (0, 0))) ∧ (L 4 → ∃ (bb : Bool) (A : Option Addr) (n c : Nat) (x : Int), (v 3) = .agg #[.bool bb, .slice A n c, .int .i64 x] ∧ W.heap[w.heap.size + 1 + 1]? = some (.cells #[.bool bb, .slice A n c, .int .i64 x] 27 (0, 0)))) := ⟨_, rfl⟩
 refine wp_region_slotsV [5, 6, 7, 8] (by kernel_rfl) (by kernel_rfl) (G := GM) ?h0M ?hstepM ?hendM
 case h0M =>
  intro v; rw [hGM]
  exact ⟨BEL.out.next (below_drew yr), blk_drew X0.out, blk_drew X1.out, fun h => h.elim, fun h => h.elim, fun h => h.elim, fun h => h.elim, ⟨fun _ => blk_drew XR.out, fun h => h.elim⟩⟩
 case hstepM =>
  intro k o ho v W L hGv hnk haft hcl K hK
  rw [hGM] at hGv
  obtain ⟨hB, hb0, hb1, f0, f1, f2, f3, f4⟩ := hGv
  rcases k with _ | _ | _ | _ | _ | k
  all_goals first
   | (cases ho; done)
   | (obtain rfl := (Option.some.inj ho).symm
      clear ho
      rw [if_pos (by rfl)]
      simp only [setAll, List.setIfInBounds_toArray, List.set_cons_zero, List.set_cons_succ, List.set_nil, List.getElem_toArray, List.getElem_cons_zero, List.getElem_cons_succ, Nat.reduceAdd] at haft hK ⊢)
  ·
   have cc0 := (box_cell (v := .bool b0) hb0 0 rfl).1
   have cc1 := (box_cell (v := .slice A n0 c) hb0 1 rfl).1
   have cc2 := (box_cell (v := .int .i64 x0) hb0 2 rfl).1
   have hb := yw W
   have key := hK.out (.agg #[.bool b0, .slice A n0 c, .int .i64 x0]) W (by rw [hGM]; exact ⟨hB.next hb, yb hb0 hb, yb hb1 hb, yu, (kV f1), (fun h => by rw [upd_ne v _ (by decide)]; exact (f2 (yx h)).below hb), (fun h => by rw [upd_ne v _ (by decide)]; exact (f3 (yx h)).below hb), (⟨fun h2 => yb (f4.1 (fun h3 => h2 (.inl h3))) hb, fun h2 => by rw [upd_ne v _ (by decide)]; obtain ⟨bb, A, n, c, x, y1, y2⟩ := f4.2 (yx h2); exact ⟨bb, A, n, c, x, y1, yb y2 hb⟩⟩)⟩)
   clear hb0 hb1 f0 f1 f2 f3 f4 hb hK
   go_simp
   simpa [upd] using key
  ·
   have cc0 := (box_cell (v := .bool b1) hb1 0 rfl).1
   have cc1 := (box_cell (v := .slice A1 n1 c1) hb1 1 rfl).1
   have cc2 := (box_cell (v := .int .i64 x1) hb1 2 rfl).1
   have hb := yw W
   have key := hK.out (.agg #[.bool b1, .slice A1 n1 c1, .int .i64 x1]) W (by rw [hGM]; exact ⟨hB.next hb, yb hb0 hb, yb hb1 hb, (kV f0), yu, (fun h => by rw [upd_ne v _ (by decide)]; exact (f2 (yx h)).below hb), (fun h => by rw [upd_ne v _ (by decide)]; exact (f3 (yx h)).below hb), (⟨fun h2 => yb (f4.1 (fun h3 => h2 (.inl h3))) hb, fun h2 => by rw [upd_ne v _ (by decide)]; obtain ⟨bb, A, n, c, x, y1, y2⟩ := f4.2 (yx h2); exact ⟨bb, A, n, c, x, y1, yb y2 hb⟩⟩)⟩)
   clear hb0 hb1 f0 f1 f2 f3 f4 hb hK
   go_simp
   simpa [upd] using key
  ·
   have d1 := f1 (haft ⟨1, .data⟩ (by simp) rfl)
   have D1 := d1
   have HALL := yk (ya hK (ya hB (ya hb0 ( ya hb1 ( ya f0 ( ya f1 ( ya f2 ( ya f3 ( ya f4 (True.intro))))))))))
   clear hK hb0 hb1 f0 f1 f2 f3 f4
   go_simp
   go_at_call 112
   refine (QN.out _ hB.1).mono ?_
   rintro en w4 ⟨v1, rfl, hr, hb⟩
   obtain ⟨hK, hB, hb0, hb1, f0, f1, f2, f3, f4, _⟩ := HALL.out
   have key := hK.out (v1) w4 (by rw [hGM]; exact ⟨hB.next hb, yb hb0 hb, yb hb1 hb, (kV f0), (kV f1), fun _ => by rw [upd_eq]; exact hr.lower (lw hB.2), (fun h => by rw [upd_ne v _ (by decide)]; exact (f3 (yx h)).below hb), (⟨fun h2 => yb (f4.1 (fun h3 => h2 (.inl h3))) hb, fun h2 => by rw [upd_ne v _ (by decide)]; obtain ⟨bb, A, n, c, x, y1, y2⟩ := f4.2 (yx h2); exact ⟨bb, A, n, c, x, y1, yb y2 hb⟩⟩)⟩)
   clear hb0 hb1 f0 f1 f2 f3 f4 hK HALL
   simpa [upd, D1] using key
  ·
   have hns4 : ¬ L 4 := fun hs => hnk (hcl 4 _ rfl hs ⟨3, .data⟩ (by simp) rfl)
   have d0 := f0 (haft ⟨0, .data⟩ (by simp) rfl)
   have D0 := d0
   have d2 := f2 (haft ⟨2, .data⟩ (by simp) rfl)
   have D2 := d2
   have HALL := yk (ya hK (ya hB (ya hb0 ( ya hb1 ( ya f0 ( ya f1 ( ya f2 ( ya f3 ( ya f4 (True.intro))))))))))
   clear hK hb0 hb1 f0 f1 f2 f3 f4
   go_simp
   go_at_call 84
   refine (QP.out _ hB.1 _ d2).mono ?_
   rintro en w4 ⟨v1, rfl, hr, hb⟩
   obtain ⟨hK, hB, hb0, hb1, f0, f1, f2, f3, f4, _⟩ := HALL.out
   have key := hK.out (v1) w4 (by rw [hGM]; exact ⟨hB.next hb, yb hb0 hb, yb hb1 hb, (kV f0), (kV f1), (fun h => by rw [upd_ne v _ (by decide)]; exact (f2 (yx h)).below hb), fun _ => by rw [upd_eq]; exact hr.lower (lw hB.2), (⟨fun h2 => yb (f4.1 (fun h3 => h2 (.inl h3))) hb, fun h2 => (hns4 (yx h2)).elim⟩)⟩)
   clear hb0 hb1 f0 f1 f2 f3 f4 hK HALL
   simpa [upd, D0] using key
  ·
   have hgb := f4.1 hnk
   have ds := f3 (haft ⟨3, .data⟩ (by simp) rfl)
   obtain ⟨bb, A, n, c, x, es⟩ := ds.ex
   refine wp_store_box 27 4 (.tmp 8) rfl rfl (g := w.heap.size + 1 + 1) (e := 27) (v 3) [.bool bb, .slice A n c, .int .i64 x] (by first | rfl | exact rfl) rfl (by rw [es]; rfl) info_dyad ?_ hgb rfl ?_
   · intro q hq; simp at hq; rcases hq with rfl | rfl | rfl <;> rfl
   · intro w1 hw1 hg
     have key := hK.out undef w1 (by rw [hGM]; exact ⟨hB.grown hg (by omega), blk_grown hb0 hg (by omega), blk_grown hb1 hg (by omega), (kV f0), (kV f1), (fun h => by rw [upd_ne v _ (by decide)]; exact (f2 (yx h)).grown_box hgb (by decide) hg), (fun h => by rw [upd_ne v _ (by decide)]; exact (f3 (yx h)).grown_box hgb (by decide) hg), ⟨fun h => (h (.inr rfl)).elim, fun _ => by rw [upd_ne v _ (by decide)]; exact ⟨bb, A, n, c, x, es, hw1⟩⟩⟩)
     clear hb0 hb1 f0 f1 f2 f3 f4 hK
     simpa [upd] using key
 case hendM =>
  intro v W L0 hall hGv
  rw [hGM] at hGv
  obtain ⟨hB, hb0, hb1, f0, f1, f2, f3, f4⟩ := hGv
  have BEL := yk hB
  have d3 := f3 (hall 3 (by decide))
  obtain ⟨b7, A7, n7, c7, x7, p3, hx7⟩ := f4.2 (hall 4 (by decide))
  rw [p3] at d3
  have P3 := yk d3
  have X3 := yk hx7
  clear hall f0 f1 f2 f3 f4 hB hb0 hb1 d3 hx7
  go_wp2
  refine bodyPost_ret (results_dyad rfl _ _ (w.heap.size + 1 + 1) _ rfl X3.out rfl) rfl ?_
  exact ⟨_, rfl, P3.out, BEL.out.1⟩

theorem order_apart_nd {u v : Value} {y z e : Int} {w : World} (h : NDy w u y e) (h' : NDy w v z e) (o : Ok y e) (o' : Ok z e) (hne : sgnI y = sgnI z → sgnI y = 0) :
 Calls Tryz.prog 55 #[u, v] w fun en w' => en = .returned (.int .i64 (sgnI (y - z))) ∧ Below w.heap.size w w' := by
 obtain ⟨b0, A, n0, c, x0, rfl⟩ := h.ex
 obtain ⟨b1, A1, n1, c1, x1, rfl⟩ := h'.ex
 obtain ⟨sy, hsy⟩ : ∃ q, q = sgnI y := ⟨_, rfl⟩
 obtain ⟨sz, hsz⟩ : ∃ q, q = sgnI z := ⟨_, rfl⟩
 obtain ⟨sd, hsd⟩ : ∃ q, q = sgnI (y - z) := ⟨_, rfl⟩
 have hy := sgnI_cases y
 have hz := sgnI_cases z
 have QS1 := yk (fun (W : World) (hb : Below w.heap.size w W) => sign_nd (h.below hb))
 have QS2 := yk (fun (W : World) (hb : Below w.heap.size w W) => sign_nd (h'.below hb))
 have HS := yk (show sd = ordS sy sz by rw [hsd, hsy, hsz]; exact ord_apart hne)
 rw [← hsd]
 rw [← hsy] at hy QS1 hne
 rw [← hsz] at hz QS2 hne
 clear h h' o o' hsy hsz hsd
 go_enter Tryz.func55, Tryz.ntmps55
 go_upto_region 1 with fail
 obtain ⟨BEL, X0, X1⟩ := al2 w 2 #[.bool b0, .slice A n0 c, .int .i64 x0] 27 #[.bool b1, .slice A1 n1 c1, .int .i64 x1] 27
 obtain ⟨TM, hTM⟩ : ∃ T : List (Option Value), T = [some (.agg #[.bool b0, .slice A n0 c, .int .i64 x0]), none, some (.agg #[.bool b1, .slice A1 n1 c1, .int .i64 x1]), none, some (.int .i64 sy), some (.int .i64 sz)] := ⟨_, rfl⟩
 obtain ⟨GM, hGM⟩ : ∃ G : (Nat → Prop) → (Nat → Value) → World → Prop, G = fun L v W => BelN w 2 W ∧ W.heap[w.heap.size]? = some (.cells #[.bool b0, .slice A n0 c, .int .i64 x0] 27 (0, 0)) ∧ W.heap[w.heap.size + 1]? = some (.cells #[.bool b1, .slice A1 n1 c1, .int .i64 x1] 27 (0, 0)) ∧ (∀ j c, L j → TM[j]? = some (some c) → v j = c) ∧ (L 1 → (v 1) = .int .i64 sy) ∧ (L 3 → (v 3) = .int .i64 sz) := ⟨_, rfl⟩
 refine wp_region_slotsV [9, 10, 11, 12, 5, 6] (by kernel_rfl) (by kernel_rfl) (G := GM) ?h0M ?hstepM ?hendM
 case h0M =>
  intro v; rw [hGM]
  exact ⟨BEL.out.next (below_drew yr), blk_drew X0.out, blk_drew X1.out, fun _ _ h => h.elim, fun h => h.elim, fun h => h.elim⟩
 case hstepM =>
  intro k o ho v W L hGv hnk haft hcl K hK
  rw [hGM] at hGv
  obtain ⟨hB, hb0, hb1, fT, f1, f3⟩ := hGv
  rcases k with _ | _ | _ | _ | _ | _ | k
  all_goals first
   | (cases ho; done)
   | (obtain rfl := (Option.some.inj ho).symm
      clear ho
      rw [if_pos (by rfl)]
      simp only [setAll, List.setIfInBounds_toArray, List.set_cons_zero, List.set_cons_succ, List.set_nil, List.getElem_toArray, List.getElem_cons_zero, List.getElem_cons_succ, Nat.reduceAdd] at haft hK ⊢)
  ·
   have cc0 := (box_cell (v := .bool b0) hb0 0 rfl).1
   have cc1 := (box_cell (v := .slice A n0 c) hb0 1 rfl).1
   have cc2 := (box_cell (v := .int .i64 x0) hb0 2 rfl).1
   have hb := yw W
   have key := hK.out (.agg #[.bool b0, .slice A n0 c, .int .i64 x0]) W (by rw [hGM]; exact ⟨hB.next hb, yb hb0 hb, yb hb1 hb, tabs_step fT (fun c h => by rw [hTM] at h; exact yo h), (kV f1), (kV f3)⟩)
   clear hb0 hb1 fT f1 f3 hK hb
   go_simp
   simpa [upd] using key
  ·
   have d0 := fT 0 _ (haft ⟨0, .data⟩ (by simp) rfl) (by rw [hTM]; rfl)
   have HALL := yk (ya hK (ya hB (ya hb0 ( ya hb1 ( ya fT ( ya f1 ( ya f3 (True.intro))))))))
   clear hK hb0 hb1 fT f1 f3
   go_simp
   go_at_call 91
   refine (QS1.out _ hB.1).mono ?_
   rintro en w4 ⟨rfl, hb⟩
   obtain ⟨hK, hB, hb0, hb1, fT, f1, f3, _⟩ := HALL.out
   have key := hK.out (.int .i64 sy) w4 (by rw [hGM]; exact ⟨hB.next hb, yb hb0 hb, yb hb1 hb, tabs_step fT (fun c h => by rw [hTM] at h; cases h), yu, (kV f3)⟩)
   clear hb0 hb1 fT f1 f3 hK HALL
   simpa [upd, d0] using key
  ·
   have cc0 := (box_cell (v := .bool b1) hb1 0 rfl).1
   have cc1 := (box_cell (v := .slice A1 n1 c1) hb1 1 rfl).1
   have cc2 := (box_cell (v := .int .i64 x1) hb1 2 rfl).1
   have hb := yw W
   have key := hK.out (.agg #[.bool b1, .slice A1 n1 c1, .int .i64 x1]) W (by rw [hGM]; exact ⟨hB.next hb, yb hb0 hb, yb hb1 hb, tabs_step fT (fun c h => by rw [hTM] at h; exact yo h), (kV f1), (kV f3)⟩)
   clear hb0 hb1 fT f1 f3 hK hb
   go_simp
   simpa [upd] using key
  ·
   have d2 := fT 2 _ (haft ⟨2, .data⟩ (by simp) rfl) (by rw [hTM]; rfl)
   have HALL := yk (ya hK (ya hB (ya hb0 ( ya hb1 ( ya fT ( ya f1 ( ya f3 (True.intro))))))))
   clear hK hb0 hb1 fT f1 f3
   go_simp
   go_at_call 91
   refine (QS2.out _ hB.1).mono ?_
   rintro en w4 ⟨rfl, hb⟩
   obtain ⟨hK, hB, hb0, hb1, fT, f1, f3, _⟩ := HALL.out
   have key := hK.out (.int .i64 sz) w4 (by rw [hGM]; exact ⟨hB.next hb, yb hb0 hb, yb hb1 hb, tabs_step fT (fun c h => by rw [hTM] at h; cases h), (kV f1), yu⟩)
   clear hb0 hb1 fT f1 f3 hK HALL
   simpa [upd, d2] using key
  ·
   have d1 := f1 (haft ⟨1, .data⟩ (by simp) rfl)
   have hb := yw W
   have key := hK.out (.int .i64 sy) W (by rw [hGM]; exact ⟨hB.next hb, yb hb0 hb, yb hb1 hb, tabs_step fT (fun c h => by rw [hTM] at h; exact yo h), (kV f1), (kV f3)⟩)
   clear hb0 hb1 fT f1 f3 hK hb
   go_simp
   simpa [upd, d1] using key
  ·
   have d3 := f3 (haft ⟨3, .data⟩ (by simp) rfl)
   have hb := yw W
   have key := hK.out (.int .i64 sz) W (by rw [hGM]; exact ⟨hB.next hb, yb hb0 hb, yb hb1 hb, tabs_step fT (fun c h => by rw [hTM] at h; exact yo h), (kV f1), (kV f3)⟩)
   clear hb0 hb1 fT f1 f3 hK hb
   go_simp
   simpa [upd, d3] using key
 case hendM =>
  intro v W L0 hall hGv
  rw [hGM] at hGv
  obtain ⟨hB, hb0, hb1, fT, f1, f3⟩ := hGv
  have d4 := fT 4 _ (hall 4 (by decide)) (by rw [hTM]; rfl)
  have d5 := fT 5 _ (hall 5 (by decide)) (by rw [hTM]; rfl)
  replace BEL := yk hB
  replace X0 := yk hb0
  replace X1 := yk hb1
  clear hall hB fT f1 f3 hb0 hb1 hTM hGM TM GM
  simp only [setAll, List.setIfInBounds_toArray, List.set_cons_zero, List.set_cons_succ, Nat.reduceAdd, d4, d5]
  clear d4 d5
  rcases hy with rfl | rfl | rfl
  all_goals rcases hz with rfl | rfl | rfl
  all_goals first
   | (exfalso; exact absurd (hne rfl) (by decide))
   | (have hq := HS.out
      subst hq
      clear hne
      go_wp2
      go_ret
      exact ⟨rfl, BEL.out.1⟩)

theorem order_level_nd {u v : Value} {y z e s : Int} {w : World} (h : NDy w u y e) (h' : NDy w v z e) (o : Ok y e) (o' : Ok z e) (hs : s = 1 ∨ s = -1) (hy : sgnI y = s) (hz : sgnI z = s) :
 Calls Tryz.prog 55 #[u, v] w fun en w' => en = .returned (.int .i64 (sgnI (y - z))) ∧ Below w.heap.size w w' := by
 obtain ⟨b0, A, n0, c, x0, rfl⟩ := h.ex
 obtain ⟨b1, A1, n1, c1, x1, rfl⟩ := h'.ex
 obtain ⟨sd, hsd⟩ : ∃ q, q = sgnI (y - z) := ⟨_, rfl⟩
 obtain ⟨ty, hty⟩ : ∃ q, q = e + bl y.natAbs - 1 := ⟨_, rfl⟩
 obtain ⟨tz, htz⟩ : ∃ q, q = e + bl z.natAbs - 1 := ⟨_, rfl⟩
 have QS1 := yk (fun (W : World) (hb : Below w.heap.size w W) => sign_nd (h.below hb))
 have QS2 := yk (fun (W : World) (hb : Below w.heap.size w W) => sign_nd (h'.below hb))
 have QT1 := yk (fun (W : World) (hb : Below w.heap.size w W) => top_nd (h.below hb) (sgn_ne hy hs))
 have QT2 := yk (fun (W : World) (hb : Below w.heap.size w W) => top_nd (h'.below hb) (sgn_ne hz hs))
 have QL := yk (fun (W : World) (hb : Below w.heap.size w W) => less_nd (h.below hb) (h'.below hb) o o')
 have QD := yk (fun (W : World) (b : Nat) (v1 : Value) (h1 : RDy W b v1 (y - z) e) => sign_any' v1 (y - z) e W h1.c (o.diff_len o'))
 have HL := yk (fun (h : ty < tz) => (by rw [hsd, ord_swap]; rw [hty, htz] at h; rw [ord_topn hz hy hs h] : sd = -s))
 have HG := yk (fun (h : tz < ty) => (by rw [hsd]; rw [hty, htz] at h; exact ord_topn hy hz hs h : sd = s))
 rw [← hsd] at QD ⊢
 rw [← hty] at QT1
 rw [← htz] at QT2
 rw [hy] at QS1
 rw [hz] at QS2
 generalize y - z = d at *
 clear h h' o o' hy hz hsd hty htz
 go_enter Tryz.func55, Tryz.ntmps55
 go_upto_region 1 with fail
 obtain ⟨BEL, X0, X1⟩ := al2 w 2 #[.bool b0, .slice A n0 c, .int .i64 x0] 27 #[.bool b1, .slice A1 n1 c1, .int .i64 x1] 27
 obtain ⟨TM, hTM⟩ : ∃ T : List (Option Value), T = [some (.agg #[.bool b0, .slice A n0 c, .int .i64 x0]), none, some (.agg #[.bool b1, .slice A1 n1 c1, .int .i64 x1]), none, some (.int .i64 s), some (.int .i64 s)] := ⟨_, rfl⟩
 obtain ⟨GM, hGM⟩ : ∃ G : (Nat → Prop) → (Nat → Value) → World → Prop, G = fun L v W => BelN w 2 W ∧ W.heap[w.heap.size]? = some (.cells #[.bool b0, .slice A n0 c, .int .i64 x0] 27 (0, 0)) ∧ W.heap[w.heap.size + 1]? = some (.cells #[.bool b1, .slice A1 n1 c1, .int .i64 x1] 27 (0, 0)) ∧ (∀ j c, L j → TM[j]? = some (some c) → v j = c) ∧ (L 1 → (v 1) = .int .i64 s) ∧ (L 3 → (v 3) = .int .i64 s) := ⟨_, rfl⟩
 refine wp_region_slotsV [9, 10, 11, 12, 5, 6] (by kernel_rfl) (by kernel_rfl) (G := GM) ?h0M ?hstepM ?hendM
 case h0M =>
  intro v; rw [hGM]
  exact ⟨BEL.out.next (below_drew yr), blk_drew X0.out, blk_drew X1.out, fun _ _ h => h.elim, fun h => h.elim, fun h => h.elim⟩
 case hstepM =>
  intro k o ho v W L hGv hnk haft hcl K hK
  rw [hGM] at hGv
  obtain ⟨hB, hb0, hb1, fT, f1, f3⟩ := hGv
  rcases k with _ | _ | _ | _ | _ | _ | k
  all_goals first
   | (cases ho; done)
   | (obtain rfl := (Option.some.inj ho).symm
      clear ho
      rw [if_pos (by rfl)]
      simp only [setAll, List.setIfInBounds_toArray, List.set_cons_zero, List.set_cons_succ, List.set_nil, List.getElem_toArray, List.getElem_cons_zero, List.getElem_cons_succ, Nat.reduceAdd] at haft hK ⊢)
  ·
   have cc0 := (box_cell (v := .bool b0) hb0 0 rfl).1
   have cc1 := (box_cell (v := .slice A n0 c) hb0 1 rfl).1
   have cc2 := (box_cell (v := .int .i64 x0) hb0 2 rfl).1
   have hb := yw W
   have key := hK.out (.agg #[.bool b0, .slice A n0 c, .int .i64 x0]) W (by rw [hGM]; exact ⟨hB.next hb, yb hb0 hb, yb hb1 hb, tabs_step fT (fun c h => by rw [hTM] at h; exact yo h), (kV f1), (kV f3)⟩)
   clear hb0 hb1 fT f1 f3 hK hb
   go_simp
   simpa [upd] using key
  ·
   have d0 := fT 0 _ (haft ⟨0, .data⟩ (by simp) rfl) (by rw [hTM]; rfl)
   have HALL := yk (ya hK (ya hB (ya hb0 ( ya hb1 ( ya fT ( ya f1 ( ya f3 (True.intro))))))))
   clear hK hb0 hb1 fT f1 f3
   go_simp
   go_at_call 91
   refine (QS1.out _ hB.1).mono ?_
   rintro en w4 ⟨rfl, hb⟩
   obtain ⟨hK, hB, hb0, hb1, fT, f1, f3, _⟩ := HALL.out
   have key := hK.out (.int .i64 s) w4 (by rw [hGM]; exact ⟨hB.next hb, yb hb0 hb, yb hb1 hb, tabs_step fT (fun c h => by rw [hTM] at h; cases h), yu, (kV f3)⟩)
   clear hb0 hb1 fT f1 f3 hK HALL
   simpa [upd, d0] using key
  ·
   have cc0 := (box_cell (v := .bool b1) hb1 0 rfl).1
   have cc1 := (box_cell (v := .slice A1 n1 c1) hb1 1 rfl).1
   have cc2 := (box_cell (v := .int .i64 x1) hb1 2 rfl).1
   have hb := yw W
   have key := hK.out (.agg #[.bool b1, .slice A1 n1 c1, .int .i64 x1]) W (by rw [hGM]; exact ⟨hB.next hb, yb hb0 hb, yb hb1 hb, tabs_step fT (fun c h => by rw [hTM] at h; exact yo h), (kV f1), (kV f3)⟩)
   clear hb0 hb1 fT f1 f3 hK hb
   go_simp
   simpa [upd] using key
  ·
   have d2 := fT 2 _ (haft ⟨2, .data⟩ (by simp) rfl) (by rw [hTM]; rfl)
   have HALL := yk (ya hK (ya hB (ya hb0 ( ya hb1 ( ya fT ( ya f1 ( ya f3 (True.intro))))))))
   clear hK hb0 hb1 fT f1 f3
   go_simp
   go_at_call 91
   refine (QS2.out _ hB.1).mono ?_
   rintro en w4 ⟨rfl, hb⟩
   obtain ⟨hK, hB, hb0, hb1, fT, f1, f3, _⟩ := HALL.out
   have key := hK.out (.int .i64 s) w4 (by rw [hGM]; exact ⟨hB.next hb, yb hb0 hb, yb hb1 hb, tabs_step fT (fun c h => by rw [hTM] at h; cases h), (kV f1), yu⟩)
   clear hb0 hb1 fT f1 f3 hK HALL
   simpa [upd, d2] using key
  ·
   have d1 := f1 (haft ⟨1, .data⟩ (by simp) rfl)
   have hb := yw W
   have key := hK.out (.int .i64 s) W (by rw [hGM]; exact ⟨hB.next hb, yb hb0 hb, yb hb1 hb, tabs_step fT (fun c h => by rw [hTM] at h; exact yo h), (kV f1), (kV f3)⟩)
   clear hb0 hb1 fT f1 f3 hK hb
   go_simp
   simpa [upd, d1] using key
  ·
   have d3 := f3 (haft ⟨3, .data⟩ (by simp) rfl)
   have hb := yw W
   have key := hK.out (.int .i64 s) W (by rw [hGM]; exact ⟨hB.next hb, yb hb0 hb, yb hb1 hb, tabs_step fT (fun c h => by rw [hTM] at h; exact yo h), (kV f1), (kV f3)⟩)
   clear hb0 hb1 fT f1 f3 hK hb
   go_simp
   simpa [upd, d3] using key
 case hendM =>
  intro v W L0 hall hGv
  rw [hGM] at hGv
  obtain ⟨hB, hb0, hb1, fT, f1, f3⟩ := hGv
  have d4 := fT 4 _ (hall 4 (by decide)) (by rw [hTM]; rfl)
  have d5 := fT 5 _ (hall 5 (by decide)) (by rw [hTM]; rfl)
  replace BEL := yk hB
  replace X0 := yk hb0
  replace X1 := yk hb1
  clear hall hB fT f1 f3 hb0 hb1 hTM hGM TM GM
  simp only [setAll, List.setIfInBounds_toArray, List.set_cons_zero, List.set_cons_succ, Nat.reduceAdd, d4, d5]
  clear d4 d5
  rcases hs with rfl | rfl
  all_goals (
   go_upto_region 8 with fail
   obtain ⟨TN, hTN⟩ : ∃ T : List (Option Value), T = [some (.agg #[.bool b0, .slice A n0 c, .int .i64 x0]), none, some (.agg #[.bool b1, .slice A1 n1 c1, .int .i64 x1]), none, some (.int .i64 ty), some (.int .i64 tz)] := ⟨_, rfl⟩
   obtain ⟨GN, hGN⟩ : ∃ G : (Nat → Prop) → (Nat → Value) → World → Prop, G = fun L v W => BelN w 2 W ∧ W.heap[w.heap.size]? = some (.cells #[.bool b0, .slice A n0 c, .int .i64 x0] 27 (0, 0)) ∧ W.heap[w.heap.size + 1]? = some (.cells #[.bool b1, .slice A1 n1 c1, .int .i64 x1] 27 (0, 0)) ∧ (∀ j c, L j → TN[j]? = some (some c) → v j = c) ∧ (L 1 → (v 1) = .int .i64 ty) ∧ (L 3 → (v 3) = .int .i64 tz) := ⟨_, rfl⟩
   refine wp_region_slotsV [24, 25, 26, 27, 7, 8] (by kernel_rfl) (by kernel_rfl) (G := GN) ?h0N ?hstepN ?hendN
   case h0N =>
    intro v; rw [hGN]
    exact ⟨BEL.out.next (below_drew yr), blk_drew X0.out, blk_drew X1.out, fun _ _ h => h.elim, fun h => h.elim, fun h => h.elim⟩
   case hstepN =>
    intro k o ho v W L hGv hnk haft hcl K hK
    rw [hGN] at hGv
    obtain ⟨hB, hb0, hb1, fT, f1, f3⟩ := hGv
    rcases k with _ | _ | _ | _ | _ | _ | k
    all_goals first
     | (cases ho; done)
     | (obtain rfl := (Option.some.inj ho).symm
        clear ho
        rw [if_pos (by rfl)]
        simp only [setAll, List.setIfInBounds_toArray, List.set_cons_zero, List.set_cons_succ, List.set_nil, List.getElem_toArray, List.getElem_cons_zero, List.getElem_cons_succ, Nat.reduceAdd] at haft hK ⊢)
    ·
     have cc0 := (box_cell (v := .bool b0) hb0 0 rfl).1
     have cc1 := (box_cell (v := .slice A n0 c) hb0 1 rfl).1
     have cc2 := (box_cell (v := .int .i64 x0) hb0 2 rfl).1
     have hb := yw W
     have key := hK.out (.agg #[.bool b0, .slice A n0 c, .int .i64 x0]) W (by rw [hGN]; exact ⟨hB.next hb, yb hb0 hb, yb hb1 hb, tabs_step fT (fun c h => by rw [hTN] at h; exact yo h), (kV f1), (kV f3)⟩)
     clear hb0 hb1 fT f1 f3 hK hb
     go_simp
     simpa [upd] using key
    ·
     have d0 := fT 0 _ (haft ⟨0, .data⟩ (by simp) rfl) (by rw [hTN]; rfl)
     have HALL := yk (ya hK (ya hB (ya hb0 ( ya hb1 ( ya fT ( ya f1 ( ya f3 (True.intro))))))))
     clear hK hb0 hb1 fT f1 f3
     go_simp
     go_at_call 92
     refine (QT1.out _ hB.1).mono ?_
     rintro en w4 ⟨rfl, hb⟩
     obtain ⟨hK, hB, hb0, hb1, fT, f1, f3, _⟩ := HALL.out
     have key := hK.out (.int .i64 ty) w4 (by rw [hGN]; exact ⟨hB.next hb, yb hb0 hb, yb hb1 hb, tabs_step fT (fun c h => by rw [hTN] at h; cases h), yu, (kV f3)⟩)
     clear hb0 hb1 fT f1 f3 hK HALL
     simpa [upd, d0] using key
    ·
     have cc0 := (box_cell (v := .bool b1) hb1 0 rfl).1
     have cc1 := (box_cell (v := .slice A1 n1 c1) hb1 1 rfl).1
     have cc2 := (box_cell (v := .int .i64 x1) hb1 2 rfl).1
     have hb := yw W
     have key := hK.out (.agg #[.bool b1, .slice A1 n1 c1, .int .i64 x1]) W (by rw [hGN]; exact ⟨hB.next hb, yb hb0 hb, yb hb1 hb, tabs_step fT (fun c h => by rw [hTN] at h; exact yo h), (kV f1), (kV f3)⟩)
     clear hb0 hb1 fT f1 f3 hK hb
     go_simp
     simpa [upd] using key
    ·
     have d2 := fT 2 _ (haft ⟨2, .data⟩ (by simp) rfl) (by rw [hTN]; rfl)
     have HALL := yk (ya hK (ya hB (ya hb0 ( ya hb1 ( ya fT ( ya f1 ( ya f3 (True.intro))))))))
     clear hK hb0 hb1 fT f1 f3
     go_simp
     go_at_call 92
     refine (QT2.out _ hB.1).mono ?_
     rintro en w4 ⟨rfl, hb⟩
     obtain ⟨hK, hB, hb0, hb1, fT, f1, f3, _⟩ := HALL.out
     have key := hK.out (.int .i64 tz) w4 (by rw [hGN]; exact ⟨hB.next hb, yb hb0 hb, yb hb1 hb, tabs_step fT (fun c h => by rw [hTN] at h; cases h), (kV f1), yu⟩)
     clear hb0 hb1 fT f1 f3 hK HALL
     simpa [upd, d2] using key
    ·
     have d1 := f1 (haft ⟨1, .data⟩ (by simp) rfl)
     have hb := yw W
     have key := hK.out (.int .i64 ty) W (by rw [hGN]; exact ⟨hB.next hb, yb hb0 hb, yb hb1 hb, tabs_step fT (fun c h => by rw [hTN] at h; exact yo h), (kV f1), (kV f3)⟩)
     clear hb0 hb1 fT f1 f3 hK hb
     go_simp
     simpa [upd, d1] using key
    ·
     have d3 := f3 (haft ⟨3, .data⟩ (by simp) rfl)
     have hb := yw W
     have key := hK.out (.int .i64 tz) W (by rw [hGN]; exact ⟨hB.next hb, yb hb0 hb, yb hb1 hb, tabs_step fT (fun c h => by rw [hTN] at h; exact yo h), (kV f1), (kV f3)⟩)
     clear hb0 hb1 fT f1 f3 hK hb
     go_simp
     simpa [upd, d3] using key
   case hendN =>
    intro v W2 L0 hall hGv
    rw [hGN] at hGv
    obtain ⟨hB, hb0, hb1, fT, f1, f3⟩ := hGv
    have d4 := fT 4 _ (hall 4 (by decide)) (by rw [hTN]; rfl)
    have d5 := fT 5 _ (hall 5 (by decide)) (by rw [hTN]; rfl)
    replace BEL := yk hB
    replace X0 := yk hb0
    replace X1 := yk hb1
    clear hall hB fT f1 f3 hb0 hb1 hTN hGN TN GN
    simp only [setAll, List.setIfInBounds_toArray, List.set_cons_zero, List.set_cons_succ, Nat.reduceAdd, d4, d5]
    clear d4 d5
    rcases Int.lt_trichotomy ty tz with h | h | h
    · have hd1 : (ty == tz) = false := by simp; omega
      have hd2 : decide (tz < ty) = false := decide_eq_false (by omega)
      have HS := yk (HL.out h)
      clear h HL HG
      go_wp2
      go_ret
      rw [HS.out]
      exact ⟨rfl, BEL.out.1⟩
    · have hd1 : (ty == tz) = true := by simp; omega
      clear h HL HG
      obtain ⟨q0, q0', q1, q1', q2, q2'⟩ := bc3 X0.out
      obtain ⟨q3, q3', q4, q4', q5, q5'⟩ := bc3 X1.out
      go_wp2_with fail
      clear q0 q0' q1 q1' q2 q2' q3 q3' q4 q4' q5 q5'
      go_at_call 93
      refine (QL.out _ BEL.out.1).mono ?_
      rintro en1 w1 ⟨v1, rfl, hr, hb⟩
      replace BEL := yk (BEL.out.next hb)
      have P1 := yk hr
      clear hr hb
      go_wp2_with fail
      go_at_call 91
      refine (QD.out _ _ _ P1.out).mono ?_
      rintro en2 w2 ⟨rfl, hb⟩
      replace BEL := yk (BEL.out.next hb)
      clear hb
      go_wp2
      go_ret
      exact ⟨rfl, BEL.out.1⟩
    · have hd1 : (ty == tz) = false := by simp; omega
      have hd2 : decide (tz < ty) = true := decide_eq_true (by omega)
      have HS := yk (HG.out h)
      clear h HL HG
      go_wp2
      go_ret
      rw [HS.out]
      exact ⟨rfl, BEL.out.1⟩)
theorem order_nd {u v : Value} {y z e : Int} {w : World} (h : NDy w u y e) (h' : NDy w v z e) (o : Ok y e) (o' : Ok z e) :
 Calls Tryz.prog 55 #[u, v] w fun en w' => en = .returned (.int .i64 (sgnI (y - z))) ∧ Below w.heap.size w w' := by
 by_cases hn : sgnI y = sgnI z → sgnI y = 0
 · exact order_apart_nd h h' o o' hn
 · rw [Classical.not_imp] at hn
   refine order_level_nd (s := sgnI y) h h' o o' ?_ rfl hn.1.symm
   have := sgnI_cases y
   rcases this with h0 | h0 | h0
   · exact absurd h0 hn.2
   · exact .inl h0
   · exact .inr h0
theorem nat_tdiv (x : Nat) : (x : Int).tdiv 4294967296 = ((x / 4294967296 : Nat) : Int) := by rw [Int.tdiv_eq_ediv_of_nonneg (by omega)]; omega
theorem nat_tmod (x : Nat) : (x : Int).tmod 4294967296 = ((x % 4294967296 : Nat) : Int) := by rw [Int.tmod_eq_emod_of_nonneg (by omega)]; omega
theorem nat_wrap {x : Nat} (h : x ≤ 18446744073709551615) {y : Int} (e : y = (x : Int)) : IntKind.u64.wrap y = (x : Int) := by subst e; exact wrap_u64 (by omega) (by omega)

theorem times_arith {x y a b c d ac bc ad bd mid oth : Nat} (hx : x = a + 4294967296 * b) (hy : y = c + 4294967296 * d) (e1 : ac = a * c) (e2 : bc = b * c) (e3 : ad = a * d) (e4 : bd = b * d) (e5 : mid = bc + ac / 4294967296) (e6 : oth = ad + mid % 4294967296) :
 (ac % 4294967296 + oth % 4294967296 * 4294967296) + 2 ^ 64 * (bd + mid / 4294967296 + oth / 4294967296) = x * y := by
 have h1 := Nat.div_add_mod ac 4294967296
 have h2 := Nat.div_add_mod mid 4294967296
 have h3 := Nat.div_add_mod oth 4294967296
 have e : x * y = ac + 4294967296 * (bc + ad) + 4294967296 * 4294967296 * bd := by rw [hx, hy, e1, e2, e3, e4]; grind
 rw [e]
 omega

theorem times_any (x y : Nat) (hx : x < 18446744073709551616) (hy : y < 18446744073709551616) (w : World) :
 Calls Tryz.prog 120 #[.int .u64 (x : Int), .int .u64 (y : Int)] w fun e w' => (∃ lo hi : Nat, e = .returned (.tuple #[.int .u64 (lo : Int), .int .u64 (hi : Int)]) ∧ lo < 18446744073709551616 ∧ hi < 18446744073709551616 ∧ lo + 18446744073709551616 * hi = x * y) ∧ ∃ n, w' = w.drewN n := by
 obtain ⟨a, ha⟩ : ∃ a, a = x % 4294967296 := ⟨_, rfl⟩
 obtain ⟨b, hb⟩ : ∃ b, b = x / 4294967296 := ⟨_, rfl⟩
 obtain ⟨c, hc⟩ : ∃ c, c = y % 4294967296 := ⟨_, rfl⟩
 obtain ⟨d, hd⟩ : ∃ d, d = y / 4294967296 := ⟨_, rfl⟩
 have ha1 : a ≤ 4294967295 := by omega
 have hb1 : b ≤ 4294967295 := by omega
 have hc1 : c ≤ 4294967295 := by omega
 have hd1 : d ≤ 4294967295 := by omega
 have ea : (x : Int).tmod 4294967296 = (a : Int) := by rw [nat_tmod, ha]
 have eb : (x : Int).tdiv 4294967296 = (b : Int) := by rw [nat_tdiv, hb]
 have ec : (y : Int).tmod 4294967296 = (c : Int) := by rw [nat_tmod, hc]
 have ed : (y : Int).tdiv 4294967296 = (d : Int) := by rw [nat_tdiv, hd]
 have HX := yk (show x = a + 4294967296 * b by omega)
 have HY := yk (show y = c + 4294967296 * d by omega)
 clear ha hb hc hd
 have mul_le : ∀ {u v : Nat}, u ≤ 4294967295 → v ≤ 4294967295 → u * v ≤ 18446744065119617025 := fun h1 h2 => Nat.mul_le_mul h1 h2
 obtain ⟨ac, hac⟩ : ∃ ac, ac = a * c := ⟨_, rfl⟩
 obtain ⟨bc, hbc⟩ : ∃ bc, bc = b * c := ⟨_, rfl⟩
 obtain ⟨ad, had⟩ : ∃ ad, ad = a * d := ⟨_, rfl⟩
 obtain ⟨bd, hbd⟩ : ∃ bd, bd = b * d := ⟨_, rfl⟩
 have lac : ac ≤ 18446744065119617025 := hac ▸ mul_le ha1 hc1
 have lbc : bc ≤ 18446744065119617025 := hbc ▸ mul_le hb1 hc1
 have lad : ad ≤ 18446744065119617025 := had ▸ mul_le ha1 hd1
 have lbd : bd ≤ 18446744065119617025 := hbd ▸ mul_le hb1 hd1
 have e1 : IntKind.u64.wrap ((a : Int) * c) = (ac : Int) := nat_wrap (by omega) (by rw [hac]; simp)
 have e2 : IntKind.u64.wrap ((b : Int) * c) = (bc : Int) := nat_wrap (by omega) (by rw [hbc]; simp)
 have e3 : IntKind.u64.wrap ((a : Int) * d) = (ad : Int) := nat_wrap (by omega) (by rw [had]; simp)
 have e4 : IntKind.u64.wrap ((b : Int) * d) = (bd : Int) := nat_wrap (by omega) (by rw [hbd]; simp)
 have f1 : (ac : Int).tdiv 4294967296 = ((ac / 4294967296 : Nat) : Int) := nat_tdiv ac
 have f2 : (ac : Int).tmod 4294967296 = ((ac % 4294967296 : Nat) : Int) := nat_tmod ac
 obtain ⟨aq, haq⟩ : ∃ aq, aq = ac / 4294967296 := ⟨_, rfl⟩
 obtain ⟨ar, har⟩ : ∃ ar, ar = ac % 4294967296 := ⟨_, rfl⟩
 rw [← haq] at f1
 rw [← har] at f2
 have laq : aq ≤ 4294967295 := by omega
 have lar : ar ≤ 4294967295 := by omega
 obtain ⟨mid, hmid⟩ : ∃ mid, mid = bc + aq := ⟨_, rfl⟩
 have lmid : mid ≤ 18446744069414584320 := by omega
 have e5 : IntKind.u64.wrap ((bc : Int) + aq) = (mid : Int) := nat_wrap (by omega) (by omega)
 have f3 : (mid : Int).tdiv 4294967296 = ((mid / 4294967296 : Nat) : Int) := nat_tdiv mid
 have f4 : (mid : Int).tmod 4294967296 = ((mid % 4294967296 : Nat) : Int) := nat_tmod mid
 obtain ⟨mq, hmq⟩ : ∃ mq, mq = mid / 4294967296 := ⟨_, rfl⟩
 obtain ⟨mr, hmr⟩ : ∃ mr, mr = mid % 4294967296 := ⟨_, rfl⟩
 rw [← hmq] at f3
 rw [← hmr] at f4
 have lmq : mq ≤ 4294967295 := by omega
 have lmr : mr ≤ 4294967295 := by omega
 obtain ⟨oth, hoth⟩ : ∃ oth, oth = ad + mr := ⟨_, rfl⟩
 have loth : oth ≤ 18446744069414584320 := by omega
 have e6 : IntKind.u64.wrap ((ad : Int) + mr) = (oth : Int) := nat_wrap (by omega) (by omega)
 have f5 : (oth : Int).tdiv 4294967296 = ((oth / 4294967296 : Nat) : Int) := nat_tdiv oth
 have f6 : (oth : Int).tmod 4294967296 = ((oth % 4294967296 : Nat) : Int) := nat_tmod oth
 obtain ⟨oq, hoq⟩ : ∃ oq, oq = oth / 4294967296 := ⟨_, rfl⟩
 obtain ⟨o0, ho0⟩ : ∃ o0, o0 = oth % 4294967296 := ⟨_, rfl⟩
 rw [← hoq] at f5
 rw [← ho0] at f6
 have loq : oq ≤ 4294967295 := by omega
 have lo0 : o0 ≤ 4294967295 := by omega
 have HT : Aside0 ((ar + o0 * 4294967296) + 18446744073709551616 * (bd + mq + oq) = x * y) := ⟨by
  have := times_arith (mid := mid) (oth := oth) HX.out HY.out hac hbc had hbd (by omega) (by omega)
  omega⟩
 have lhi : bd + mq + oq ≤ 18446744073709551615 := by
  have h1 := HT.out
  have h2 : x * y < 18446744073709551616 * 18446744073709551616 := Nat.mul_lt_mul'' hx hy
  rw [← h1] at h2
  omega
 obtain ⟨low, hlow⟩ : ∃ low, low = ar + o0 * 4294967296 := ⟨_, rfl⟩
 have llow : low ≤ 18446744073709551615 := by omega
 have e7 : IntKind.u64.wrap ((o0 : Int) * 4294967296) = ((o0 * 4294967296 : Nat) : Int) := nat_wrap (by omega) (by omega)
 have e8 : IntKind.u64.wrap ((ar : Int) + (o0 * 4294967296 : Nat)) = (low : Int) := nat_wrap (by omega) (by omega)
 have e9 : IntKind.u64.wrap ((ar : Int) + (o0 : Int) * 4294967296) = (low : Int) := nat_wrap (by omega) (by omega)
 rw [← hlow] at HT
 clear hac hbc had hbd haq har hmid hmq hmr hoth hoq ho0 hlow mul_le hx hy
 go_enter Tryz.func120, Tryz.ntmps120
 go_wp2
 go_ret2
 exact ⟨⟨low, bd + mq + oq, rfl, by omega, by omega, HT.out⟩, ⟨0, rfl⟩⟩
/-- Norm, its answer as a list that is read. -/
theorem norm_read (l : List Nat) (A : Option Addr) (n c N : Nat) (L : List Nat) (hn : l.length = n) (hL : L = limbs (nv l)) (hN : N = L.length) (w m : World) (hr : kU.C w A n l) (hc : n ≤ c) (hw : Wf l) (hl : n ≤ 4294967296) (hb : Below w.heap.size w m) :
 Calls Tryz.prog 76 #[.slice A n c] m fun e w' => ∃ A1 c1, e = .returned (.slice A1 N c1) ∧ N ≤ c1 ∧ kU.C w' A1 N L ∧ Below w.heap.size w w' ∧ Below m.heap.size m w' := by
 subst hn hL hN
 refine (norm_any l A c m (Kd.C_below hr hb) hc hw hl).mono ?_
 rintro e w' ⟨v, rfl, ho, hb2⟩
 obtain ⟨A1, c1, rfl, hc1, hC1⟩ := Kd.R_reads ho
 exact ⟨A1, c1, rfl, hc1, hC1, below_then hb hb.size hb2, hb2⟩
theorem times_is (x y lo hi : Nat) (hx : x < 18446744073709551616) (hy : y < 18446744073709551616) (h1 : lo < 18446744073709551616) (h2 : lo + 18446744073709551616 * hi = x * y) (w : World) :
 Calls Tryz.prog 120 #[.int .u64 (x : Int), .int .u64 (y : Int)] w fun e w' => e = .returned (.tuple #[.int .u64 (lo : Int), .int .u64 (hi : Int)]) ∧ ∃ n, w' = w.drewN n := by
 refine (times_any x y hx hy w).mono ?_
 rintro e w' ⟨⟨lo', hi', rfl, e1, e2, e3⟩, hn⟩
 obtain rfl : lo' = lo := by omega
 obtain rfl : hi' = hi := by omega
 exact ⟨rfl, hn⟩

theorem mul_any (a b : List Nat) (A B : Option Addr) (na nb c d : Nat) (hna : a.length = na) (hnb : b.length = nb) (w : World) (ha : kU.C w A na a) (hb : kU.C w B nb b) (hc : na ≤ c) (hd : nb ≤ d) (wa : Wf a) (wb : Wf b) (la : na ≤ 1073741824) (lb : nb ≤ 1073741824) :
 Calls Tryz.prog 116 #[.slice A na c, .slice B nb d] w fun e w' => ∃ v, e = .returned v ∧ kU.R 23 w' w.heap.size (fun _ => True) v (limbs (nv a * nv b)) ∧ Below w.heap.size w w' := by
 obtain ⟨L, hL⟩ : ∃ L, L = limbs (nv a) := ⟨_, rfl⟩
 obtain ⟨M, hM⟩ : ∃ M, M = limbs (nv b) := ⟨_, rfl⟩
 obtain ⟨n1, hn1⟩ : ∃ n, n = L.length := ⟨_, rfl⟩
 obtain ⟨n2, hn2⟩ : ∃ n, n = M.length := ⟨_, rfl⟩
 have ln1 : n1 ≤ 1073741824 := by have := limbs_nv_len wa; rw [hn1, hL]; omega
 have ln2 : n2 ≤ 1073741824 := by have := limbs_nv_len wb; rw [hn2, hM]; omega
 have WL := yk (show Wf L by rw [hL]; exact wf_limbs _)
 have WM := yk (show Wf M by rw [hM]; exact wf_limbs _)
 have VL := yk (show nv L = nv a by rw [hL, nv_limbs])
 have VM := yk (show nv M = nv b by rw [hM, nv_limbs])
 have NL := yk hn1.symm
 have NM := yk hn2.symm
 have QA := yk (fun m hB => norm_read a A na c n1 L hna hL hn1 w m ha hc wa (by omega) hB)
 have QB := yk (fun m hB => norm_read b B nb d n2 M hnb hM hn2 w m hb hd wb (by omega) hB)
 obtain ⟨N, hN⟩ : ∃ N, N = n1 + n2 + 1 := ⟨_, rfl⟩
 have hN1 : (n1 : Int) + n2 + 1 = (N : Int) := by omega
 have hN2 : N ≤ 2147483649 := by omega
 have hN3 : n1 + n2 < N := by omega
 have HN := yk hN
 clear ha hb wa wb hna hnb hL hM hn1 hn2 hc hd la lb hN
 go_enter Tryz.func116, Tryz.ntmps116
 go_wp2_with (first
  | (go_at_call 76; first
    | (with_reducible refine (QA.out _ ?hB).mono ?_; (case hB => first | exact Below.refl _ _ | exact pw_below_drewN yr _); rintro e w_1 ⟨A1, c1, rfl, hc1, hC1, hB1, _⟩; have C1 := yk hC1; have B1 := yk hB1; clear hC1 hB1)
    | (with_reducible refine (QB.out _ ?hB).mono ?_; (case hB => first | exact B1.out | exact pw_below_drewN B1.out _); rintro e w_2 ⟨A2, c2, rfl, hc2, hC2, hB2, hB2'⟩; have C2 := yk hC2; have B2 := yk hB2; have C1' := yk (Kd.C_below C1.out (by first | exact hB2' | exact below_of_drewN hB2')); clear hC2 hB2 hB2'))
  | ((with_reducible refine gate_dst (N := 25) rfl ?_); go_must (refine Kd.R_make kU (w0 := w_2) w_2.heap.size 23 rfl rfl 25 (.tmp 24) (.tmp 24) rfl (N : Int) ?mx ?my Tryz.underlying25 (.int .u64 0) 8 info_word rfl (by decide) (by decide) 0 (ok := fun _ => True) (okp := fun _ => False) ?mz (fun _ h => h.elim) trivial (by omega) ?ml yr (Nat.le_refl _) ?_; (case mx => rfl); (case my => rfl); (case mz => rfl); (case ml => omega); intro v_3 w_3 ho hb hg hown; obtain ⟨g, cap, rfl, hg1, hg2, _⟩ := Kd.R_form ho (by simp; omega); rw [show (List.replicate ((N : Int)).toNat (0 : Nat)).length = N by simp] at ho ⊢; have HO := yk ho; have B3 := yk hb; have HG := yk hg1; clear ho hb hg hown hg1 hg2)))
 go_loopw [28] (fun v28 wr => ∃ (k : Nat) (o : List Nat), v28 = .int .i64 k ∧ k ≤ n1 ∧ Aside0 (Below w_2.heap.size w_2 wr) ∧ Aside0 (kU.R 23 wr w_2.heap.size (fun _ => True) (.slice (some ⟨g, 0, none⟩) N cap) o) ∧ Aside0 (o.length = N ∧ Wf o ∧ nv o = nv (L.take k) * nv M)) (fun v28 _ => n1 - (intOf v28).toNat)
 case atStart => exact ⟨0, _, rfl, Nat.zero_le _, B3, HO, ⟨by simp, Wf.replicate _, by rw [nv_replicate]; simp [nv]⟩⟩
 case round =>
  obtain ⟨k, o, rfl, hk, HB, HO1, HG1⟩ := hrel
  by_cases hlt : k < n1
  · obtain ⟨ad, x, rfl, hx0, hcell⟩ := at_word (Kd.C_below C1'.out HB.out) NL.out k hlt
    have HX := yk (wd_of hx0)
    have hx64 : x < 18446744073709551616 := WL.out.get hx0
    clear hx0
    have hp0 : (k : Int) + n2 < N := by omega
    go_wp2
    go_loopw [8, 35] (fun v8 v35 wr => ∃ (j cy : Nat) (o : List Nat), v8 = .int .u64 cy ∧ v35 = .int .i64 j ∧ j ≤ n2 ∧ cy ≤ 18446744073709551615 ∧ Aside0 (Below w_2.heap.size w_2 wr) ∧ Aside0 (kU.R 23 wr w_2.heap.size (fun _ => True) (.slice (some ⟨g, 0, none⟩) N cap) o) ∧ Aside0 (o.length = N ∧ Wf o ∧ nv o + 2 ^ (64 * (k + j)) * cy = nv (L.take k) * nv M + 2 ^ (64 * k) * (x * nv (M.take j)) ∧ wd o (k + n2) = 0)) (fun _ v35 _ => n2 - (intOf v35).toNat)
    case atStart =>
     refine ⟨0, 0, o, rfl, rfl, Nat.zero_le _, by omega, HB, HO1, ⟨HG1.out.1, HG1.out.2.1, by rw [HG1.out.2.2]; simp [nv], ?_⟩⟩
     refine wd_small HG1.out.2.1 (k := k + n2) ?_ (Nat.le_refl _)
     rw [HG1.out.2.2, Nat.mul_add, Nat.pow_add]
     have h1 := nv_take_lt WL.out k
     have h2 := nv_lt WM.out
     rw [NM.out] at h2
     exact Nat.mul_lt_mul'' h1 h2
    case round =>
     clear HO1 HG1
     obtain ⟨j, cy, o, rfl, rfl, hj, hcy, HB', HO2, HG2⟩ := hrel
     by_cases hlt2 : j < n2
     · obtain ⟨bd, y, rfl, hy0, hcell2⟩ := at_word (Kd.C_below C2.out HB'.out) NM.out j hlt2
       have HY := yk (wd_of hy0)
       have hy64 : y < 18446744073709551616 := WM.out.get hy0
       clear hy0
       obtain ⟨p, hp⟩ : ∃ p, p = k + j := ⟨_, rfl⟩
       have hpN : p < N := by omega
       have hp1 : (k : Int) + j = (p : Int) := by omega
       have HP := yk hp
       obtain ⟨hw1, hw2, hput⟩ := put_word HO2.out hpN
       obtain ⟨w0, hw0⟩ : ∃ w0, w0 = wd o p := ⟨_, rfl⟩
       have hw64 : w0 < 18446744073709551616 := by rw [hw0]; exact wd_lt HG2.out.2.1 p
       rw [← hw0] at hw1
       obtain ⟨lo, hi, hlo, hlh⟩ : ∃ lo hi, lo < 18446744073709551616 ∧ lo + 18446744073709551616 * hi = x * y := ⟨x * y % 18446744073709551616, x * y / 18446744073709551616, Nat.mod_lt _ (by decide), Nat.mod_add_div _ _⟩
       have QT := yk (times_is x y lo hi hx64 hy64 hlo hlh)
       obtain ⟨s, c1', hs1, hs2, hs3, hs4⟩ : ∃ s c' : Nat, s < 18446744073709551616 ∧ c' ≤ 1 ∧ s + 18446744073709551616 * c' = w0 + lo ∧ IntKind.u64.wrap ((w0 : Int) + lo) = (s : Int) := ⟨(w0 + lo) % 18446744073709551616, (w0 + lo) / 18446744073709551616, by omega, by omega, by omega, by unfold IntKind.wrap; simp [IntKind.bits, IntKind.signed]⟩
       obtain ⟨t, c2', ht1, ht2, ht3, ht4⟩ : ∃ s' c' : Nat, s' < 18446744073709551616 ∧ c' ≤ 1 ∧ s' + 18446744073709551616 * c' = s + cy ∧ IntKind.u64.wrap ((s : Int) + cy) = (s' : Int) := ⟨(s + cy) % 18446744073709551616, (s + cy) / 18446744073709551616, by omega, by omega, by omega, by unfold IntKind.wrap; simp [IntKind.bits, IntKind.signed]⟩
       have hxy : x * y ≤ 18446744073709551615 * 18446744073709551615 := Nat.mul_le_mul (by omega) (by omega)
       have hhi : hi + c1' + c2' ≤ 18446744073709551615 := by omega
       have HT := yk (show t + 2 ^ 64 * (hi + c1' + c2') = w0 + x * y + cy by omega)
       have HW0 := yk hw0
       have hhi2 : hi ≤ 18446744073709551615 := by omega
       have hc1s : (c1' = 1 ∧ s < lo) ∨ (c1' = 0 ∧ lo ≤ s) := by omega
       have hc2s : (c2' = 1 ∧ t < cy) ∨ (c2' = 0 ∧ cy ≤ t) := by omega
       have HPUT := yk hput
       have hst := run_store_word (P := Tryz.prog) (u := (t : Int)) hw1 hw2
       clear hw0 hp hput hxy hs3 ht3 hlh
       rcases hc1s with ⟨rfl, hc1s⟩ | ⟨rfl, hc1s⟩ <;> rcases hc2s with ⟨rfl, hc2s⟩ | ⟨rfl, hc2s⟩
       all_goals
        go_wp2_with (go_at_call 120; with_reducible refine (QT.out _).mono ?_; rintro e w' ⟨rfl, n1, rfl⟩)
        go_roundw
        case rel =>
         refine ⟨j + 1, _, o.set p t, rfl, by go_num, by omega, by omega, ?hB, ?hO, ?hG⟩
         case hB => exact ⟨(pw_below_drewN HB'.out _).setCell HG.out _⟩
         case hO => exact ⟨(put_word (Kd.R_drewN HO2.out _) hpN).2.2 t⟩
         case hG =>
          have hl : p < o.length := by have := HG2.out.1; omega
          refine ⟨by simp [HG2.out.1], HG2.out.2.1.set ht1, ?_, ?_⟩
          · rw [nv_take_succ M, HY.out]
            refine mul_step HG2.out.2.2.1 ?_ HT.out
            rw [← HP.out, HW0.out]
            exact nv_set hl t
          · rw [wd_set_ne (by have := HP.out; omega)]
            exact HG2.out.2.2.2
        case measure => simp [intOf]; omega
     · obtain rfl : j = n2 := by omega
       obtain ⟨p, hp⟩ : ∃ p, p = k + j := ⟨_, rfl⟩
       have hpN : p < N := by omega
       have hp1 : (k : Int) + j = (p : Int) := by omega
       have HP := yk hp
       obtain ⟨hw1, hw2, hput⟩ := put_word HO2.out hpN
       have HPUT := yk hput
       have hst := run_store_word (P := Tryz.prog) (u := (cy : Int)) hw1 hw2
       clear hp hput
       go_wp2
       go_roundw
       case rel =>
        refine ⟨k + 1, o.set p cy, by go_num, by omega, ?hB, ?hO, ?hG⟩
        case hB => exact ⟨HB'.out.setCell HG.out _⟩
        case hO => exact ⟨HPUT.out cy⟩
        case hG =>
         have hl : p < o.length := by have := HG2.out.1; omega
         refine ⟨by simp [HG2.out.1], HG2.out.2.1.set (by omega), ?_⟩
         rw [nv_take_succ L, HX.out]
         have e1 := nv_set hl cy
         have e2 := HG2.out.2.2.2
         rw [← HP.out] at e2
         rw [e2, HP.out] at e1
         have e3 := HG2.out.2.2.1
         rw [nv_take_all (l := M) (by rw [NM.out]; omega)] at e3
         rw [HP.out]
         exact mul_row e3 rfl (by omega)
       case measure => simp [intOf]; omega
  · obtain rfl : k = n1 := by omega
    have HF := yk (show nv o = nv a * nv b by rw [HG1.out.2.2, nv_take_all (by rw [NL.out]; omega), VL.out, VM.out])
    have HR := yk (Kd.R_reads' HO1.out).2.2
    have QN := yk (norm_any o (some ⟨g, 0, none⟩) cap wr HR.out (by rw [HG1.out.1]; exact (Kd.R_reads' HO1.out).2.1) HG1.out.2.1 (by rw [HG1.out.1]; omega))
    rw [HG1.out.1] at QN
    go_wp2_with (go_at_call 76; go_must (refine QN.out.mono ?_; rintro e w1 ⟨v, rfl, ho, hb⟩; rw [HF.out] at ho; have HOO := yk ho; have HBB := yk hb; clear ho hb))
    go_ret
    have HB4 := below_then B2.out B2.out.size HB.out
    exact ⟨_, rfl, Kd.R_lower HOO.out HB4.size, below_then HB4 HB4.size HBB.out⟩
end Go.Proofs.YtgpjplelgffocaaGreatDoor
