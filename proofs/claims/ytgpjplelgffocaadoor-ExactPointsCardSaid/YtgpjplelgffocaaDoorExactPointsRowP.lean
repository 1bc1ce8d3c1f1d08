/- ExactPoints returns true at every input, and leaves its arguments and all old memory as they were, where the table math/bits.deBruijn64tab holds at first what the program's text lays into it (the card ties that). -/
import Derived.Test.YtgpjplelgffocaaDoorP5
import Derived.Test.YtgpjplelgffocaaDoorRows
import Derived.Test.YtgpjplelgffocaaDoorTie
import Derived.Test.YtgpjplelgffocaaDoorCards
import Derived.WalkKit
import Derived.ProofKit
import Derived.LaidMore
import Derived.OpenShut
import Derived.Below
import Derived.Stop.Joined
import Derived.SevenTiedAt
namespace Go.Proofs.YtgpjplelgffocaaDoor
open Go.RowKit Go.Proofs.YtgpjplelgffocaaDoorW.PrintWords Limb
set_option linter.unusedVariables false
set_option linter.unusedSimpArgs false

/-- A finite word's amount rises with its bits. -/
def gabs (E F : Nat) : Nat := (if E = 0 then F else 4503599627370496 + F) * 2 ^ (E - 1)
theorem gabs_lt {E F E' F' : Nat} (hF : F < 4503599627370496) (hF' : F' < 4503599627370496) (h : E < E' ∨ (E = E' ∧ F < F')) : gabs E F < gabs E' F' := by
  unfold gabs
  rcases h with h | ⟨rfl, h⟩
  · rw [if_neg (show ¬ E' = 0 by omega)]
    have h2 : 4503599627370496 * 2 ^ (E' - 1) ≤ (4503599627370496 + F') * 2 ^ (E' - 1) := Nat.mul_le_mul_right _ (by omega)
    refine Nat.lt_of_lt_of_le ?_ h2
    by_cases h0 : E = 0
    · subst h0
      rw [if_pos rfl, Nat.pow_zero, Nat.mul_one]
      have := Nat.two_pow_pos (E' - 1)
      calc F < 4503599627370496 := hF
        _ = 4503599627370496 * 1 := (Nat.mul_one _).symm
        _ ≤ 4503599627370496 * 2 ^ (E' - 1) := Nat.mul_le_mul_left _ this
    · rw [if_neg h0]
      have h3 : 2 * 2 ^ (E - 1) ≤ 2 ^ (E' - 1) := by
        rw [← Nat.pow_succ']
        exact Nat.pow_le_pow_right (by decide) (show E - 1 + 1 ≤ E' - 1 by omega)
      have h4 : (4503599627370496 + F) * 2 ^ (E - 1) < (4503599627370496 * 2) * 2 ^ (E - 1) := Nat.mul_lt_mul_of_pos_right (by omega) (Nat.two_pow_pos _)
      rw [Nat.mul_assoc] at h4
      exact Nat.lt_of_lt_of_le h4 (Nat.mul_le_mul_left _ h3)
  · exact Nat.mul_lt_mul_of_pos_right (by split <;> omega) (Nat.two_pow_pos _)
theorem valI_abs (x : Nat) : (valI x).natAbs = gabs (x / 4503599627370496 % 2048) (x % 4503599627370496) := by
  unfold valI gabs
  rw [sgn_abs]
theorem abs_iff {x y : Nat} : ((valI y).natAbs : Int) = (valI x).natAbs ↔ x % 9223372036854775808 = y % 9223372036854775808 := by
  rw [valI_abs, valI_abs]
  have hx : x % 9223372036854775808 = (x / 4503599627370496 % 2048) * 4503599627370496 + x % 4503599627370496 := by omega
  have hy : y % 9223372036854775808 = (y / 4503599627370496 % 2048) * 4503599627370496 + y % 4503599627370496 := by omega
  rw [hx, hy]
  have hF : x % 4503599627370496 < 4503599627370496 := Nat.mod_lt _ (by decide)
  have hF' : y % 4503599627370496 < 4503599627370496 := Nat.mod_lt _ (by decide)
  generalize x / 4503599627370496 % 2048 = E at *
  generalize y / 4503599627370496 % 2048 = E' at *
  generalize x % 4503599627370496 = F at *
  generalize y % 4503599627370496 = F' at *
  constructor
  · intro h
    rcases Nat.lt_trichotomy E E' with h1 | h1 | h1
    · have := gabs_lt hF hF' (.inl h1); omega
    · subst h1
      rcases Nat.lt_trichotomy F F' with h2 | h2 | h2
      · have := gabs_lt (E := E) (E' := E) hF hF' (.inr ⟨rfl, h2⟩); omega
      · rw [h2]
      · have := gabs_lt (E := E) (E' := E) hF' hF (.inr ⟨rfl, h2⟩); omega
    · have := gabs_lt hF' hF (.inl h1); omega
  · intro h
    have h1 : E = E' := by omega
    subst h1
    have h2 : F = F' := by omega
    rw [h2]
set_option maxHeartbeats 1000000 in
theorem finite_no (x : Nat) (hx : ¬ x % 9223372036854775808 < 9218868437227405312) (w : World) :
    Calls Tryd.prog 50 #[.int .u64 (x : Int)] w fun e w' => e = .returned (.bool false) ∧ Below w.heap.size w w' := by
  obtain ⟨r, hr⟩ : ∃ r, r = x % 9223372036854775808 := ⟨_, rfl⟩
  have e1 : (x : Int).tmod 9223372036854775808 = (r : Int) := by rw [hr]; exact tmod_nat x 9223372036854775808
  rw [← hr] at hx
  have hd : decide ((r : Int) < 9218868437227405312) = false := decide_eq_false (by omega)
  have HB := Aside0.mk (Below.refl w.heap.size w)
  clear hr hx
  go_enter Tryd.func50, Tryd.ntmps50
  go_wp2
  go_ret
  exact ⟨ret_bool (by first | with_reducible rfl | exact hd), HB.out⟩
theorem dabs_any (x : Nat) (w : World) : Calls Tryd.prog 27 #[.int .u64 (x : Int)] w fun e w' => e = .returned (.int .u64 ((x % 9223372036854775808 : Nat) : Int)) ∧ Below w.heap.size w w' := by
  obtain ⟨r, hr⟩ : ∃ r, r = x % 9223372036854775808 := ⟨_, rfl⟩
  have e1 : (x : Int).tmod 9223372036854775808 = (r : Int) := by rw [hr]; exact tmod_nat x 9223372036854775808
  rw [← hr]
  have HB := Aside0.mk (Below.refl w.heap.size w)
  clear hr
  go_enter Tryd.func27, Tryd.ntmps27
  go_wp2
  go_ret
  exact ⟨rfl, HB.out⟩

set_option maxRecDepth 100000 in
set_option maxHeartbeats 8000000 in
theorem dfrom_none (x : Nat) (hx : ¬ x % 9223372036854775808 < 9218868437227405312) (w : World) :
    Calls Tryd.prog 25 #[.int .u64 (x : Int)] w fun e w' => e = .returned (.tuple #[Z0, .int .i64 5]) ∧ Below w.heap.size w w' := by
  have QF := Aside0.mk (fun (W : World) => finite_no x hx W)
  clear hx
  go_enter Tryd.func25, Tryd.ntmps25
  have BEL : Aside0 (BelN w 1 (w.alloc (.cells #[.bool false, .slice none 0 0, .int .i64 0] 27))) := ⟨((BelN.zero w).alloc _).less (by decide)⟩
  have XR : Aside0 ((w.alloc (.cells #[.bool false, .slice none 0 0, .int .i64 0] 27)).heap[w.heap.size]? = some (.cells #[.bool false, .slice none 0 0, .int .i64 0] 27 (0, 0))) := ⟨by have h := blk_new w (.cells #[.bool false, .slice none 0 0, .int .i64 0] 27); exact h⟩
  go_wp2_with fail
  go_at_call 50
  refine (QF.out _).mono ?_
  rintro en1 w1 ⟨rfl, hb⟩
  replace BEL := Aside0.mk (BEL.out.next hb)
  replace XR := Aside0.mk (blk_below XR.out hb)
  clear hb
  go_wp2_with (((with_reducible refine gate_store (p := 2) rfl ?_); go_must (refine store_box 27 2 (.tmp 10) rfl rfl rfl (g := w.heap.size) (e := 27) (.agg #[.bool false, .slice none 0 0, .int .i64 0]) ([.bool false, .slice none 0 0, .int .i64 0]) rfl rfl rfl info_dyad ?b1 XR.out rfl ?_; (case b1 => intro q hq; simp at hq; rcases hq with rfl | rfl | rfl <;> rfl); intro wb hbx hgx; have HX := Aside0.mk hbx; have HG := Aside0.mk hgx; clear hbx hgx)); replace BEL := Aside0.mk (BEL.out.grown HG.out (by omega)); replace XR := HX; clear HG)
  refine bodyPost_ret (results_dyad_tmp rfl _ _ w.heap.size _ rfl XR.out rfl) rfl ?_
  exact ⟨rfl, BEL.out.1⟩
theorem RDy.zero (w : World) (b : Nat) (e : Int) : RDy w b Z0 0 e := ⟨none, 0, 0, rfl, by rw [cman_zero, limbs_zero]; exact Kd.R_nil _ _ _ _ _⟩
theorem dfrom_any (x : Nat) (hx : x < 18446744073709551616) (w : World) :
    Calls Tryd.prog 25 #[.int .u64 (x : Int)] w fun e w' => ∃ v, e = .returned (.tuple #[v, .int .i64 (errB (finB x))]) ∧ RDy w' w.heap.size v (fromV x) (-1074) ∧ Below w.heap.size w w' := by
  by_cases h : x % 9223372036854775808 < 9218868437227405312
  · have hb : finB x = true := decide_eq_true h
    unfold fromV errB
    rw [if_pos hb, if_pos hb]
    exact from_fields x (valI x) h rfl hx w
  · have hb : ¬ finB x = true := by unfold finB; rw [decide_eq_false h]; decide
    unfold fromV errB
    rw [if_neg hb, if_neg hb]
    exact (dfrom_none x h w).mono fun en w' q => ⟨_, q.1, RDy.zero _ _ _, q.2⟩

set_option maxRecDepth 100000 in
set_option maxHeartbeats 8000000 in
theorem dis2_one (f : Nat) (hf : f < 256) (w : World) :
    Calls Tryd.prog 24 #[.int .u8 f] w fun en w' => en = .returned (.bool (is2F f)) ∧ Below w.heap.size w w' := by
  have hb0 := Aside0.mk (Below.refl w.heap.size w)
  unfold is2F
  by_cases h1 : f = 33
  · rw [decide_eq_true h1]
    have d1 : ((f : Int) == 33) = true := by simp; omega
    go_enter Tryd.func24, Tryd.ntmps24
    go_wp2
    go_ret
    exact ⟨rfl, hb0.out⟩
  · rw [decide_eq_false h1]
    have d1 : ((f : Int) == 33) = false := by simp; omega
    obtain ⟨q, hq⟩ : ∃ q, decide (f = 34) = q := ⟨_, rfl⟩
    have d2 : ((f : Int) == 34) = q := by
      rw [← hq]
      by_cases h2 : f = 34
      · subst h2; rfl
      · rw [decide_eq_false h2]; simp; omega
    rw [hq]
    clear h1 hq
    go_enter Tryd.func24, Tryd.ntmps24
    go_wp2
    go_ret
    exact ⟨rfl, hb0.out⟩

set_option maxRecDepth 100000 in
set_option maxHeartbeats 8000000 in
theorem dorder_zero {u v : Value} {z e e' : Int} {w : World} (h : CDy w u z e) (h' : CDy w v 0 e') (o : Ok z e) (o' : Ok 0 e') :
    Calls Tryd.prog 16 #[u, v] w fun en w' => en = .returned (.int .i64 (sgnI z)) ∧ Below w.heap.size w w' := by
  obtain ⟨b0, A, n0, c, x0, rfl⟩ := h.ex
  obtain ⟨b1, A1, n1, c1, x1, rfl⟩ := h'.ex
  have HU := Aside0.mk h
  have HV := Aside0.mk h'
  have LU := Aside0.mk o.len30
  have LV := Aside0.mk o'.len30
  obtain ⟨sz, hsz⟩ : ∃ q, q = sgnI z := ⟨_, rfl⟩
  have hs := sgnI_cases z
  have QSg := Aside0.mk (fun (W : World) (hb : Below w.heap.size w W) => sign_any' _ z e _ (h.below hb) o.len30)
  rw [← hsz] at hs QSg ⊢
  clear h h' o o' hsz
  go_enter Tryd.func16, Tryd.ntmps16
  go_upto_region 1 with fail
  have BEL : Aside0 (BelN w 2 ((w.alloc (.cells #[.bool b0, .slice A n0 c, .int .i64 x0] 27)).alloc (.cells #[.bool b1, .slice A1 n1 c1, .int .i64 x1] 27))) := ⟨(((BelN.zero w).alloc _).alloc _).less (by decide)⟩
  have X0 : Aside0 (((w.alloc (.cells #[.bool b0, .slice A n0 c, .int .i64 x0] 27)).alloc (.cells #[.bool b1, .slice A1 n1 c1, .int .i64 x1] 27)).heap[w.heap.size]? = some (.cells #[.bool b0, .slice A n0 c, .int .i64 x0] 27 (0, 0))) := ⟨by have h := blk_new w (.cells #[.bool b0, .slice A n0 c, .int .i64 x0] 27); exact blk_alloc (h) _⟩
  have X1 : Aside0 (((w.alloc (.cells #[.bool b0, .slice A n0 c, .int .i64 x0] 27)).alloc (.cells #[.bool b1, .slice A1 n1 c1, .int .i64 x1] 27)).heap[w.heap.size + 1]? = some (.cells #[.bool b1, .slice A1 n1 c1, .int .i64 x1] 27 (0, 0))) := ⟨by have h := blk_new (w.alloc (.cells #[.bool b0, .slice A n0 c, .int .i64 x0] 27)) (.cells #[.bool b1, .slice A1 n1 c1, .int .i64 x1] 27); rw [size_alloc'] at h; exact h⟩
  obtain ⟨TM, hTM⟩ : ∃ T : List (Option Value), T = [some (.agg #[.bool b0, .slice A n0 c, .int .i64 x0]), none, some (.agg #[.bool b1, .slice A1 n1 c1, .int .i64 x1]), none, some (.int .i64 sz), some (.int .i64 (sgnI 0))] := ⟨_, rfl⟩
  obtain ⟨GM, hGM⟩ : ∃ G : (Nat → Prop) → (Nat → Value) → World → Prop, G = fun L v W => BelN w 2 W ∧ W.heap[w.heap.size]? = some (.cells #[.bool b0, .slice A n0 c, .int .i64 x0] 27 (0, 0)) ∧ W.heap[w.heap.size + 1]? = some (.cells #[.bool b1, .slice A1 n1 c1, .int .i64 x1] 27 (0, 0)) ∧ (∀ j c, L j → TM[j]? = some (some c) → v j = c) ∧ (L 1 → (v 1) = .int .i64 sz) ∧ (L 3 → (v 3) = .int .i64 (sgnI 0)) := ⟨_, rfl⟩
  refine wp_region_slotsV [9, 10, 11, 12, 5, 6] (by kernel_rfl) (by kernel_rfl) (G := GM) ?h0M ?hstepM ?hendM
  case h0M =>
    intro v; rw [hGM]
    exact ⟨BEL.out.next (below_drew (Below.refl _ _)), blk_drew X0.out, blk_drew X1.out, fun _ _ h => h.elim, fun h => h.elim, fun h => h.elim⟩
  case hstepM =>
    intro k o ho v W L hGv hnk haft hcl K hK
    rw [hGM] at hGv
    obtain ⟨hB, hb0, hb1, fT, f1, f3⟩ := hGv
    rcases k with _ | _ | _ | _ | _ | _ | k
    all_goals first
      | (cases ho; done)
      | (obtain rfl := (Option.some.inj ho).symm
         clear ho
         rw [if_pos (by rfl)]
         simp only [setAll, List.setIfInBounds_toArray, List.set_cons_zero, List.set_cons_succ, List.set_nil, List.getElem_toArray, List.getElem_cons_zero, List.getElem_cons_succ, Nat.reduceAdd] at haft hK ⊢)
    case zero =>
      have cc0 := (box_cell (v := .bool b0) hb0 0 rfl).1
      have cc1 := (box_cell (v := .slice A n0 c) hb0 1 rfl).1
      have cc2 := (box_cell (v := .int .i64 x0) hb0 2 rfl).1
      have hb := Below.refl W.heap.size W
      have key := hK.out (.agg #[.bool b0, .slice A n0 c, .int .i64 x0]) W (by rw [hGM]; exact ⟨hB.next hb, blk_below hb0 hb, blk_below hb1 hb, tabs_step fT (fun c h => by rw [hTM] at h; exact Option.some.inj (Option.some.inj h)), (kv f1 (by decide)), (kv f3 (by decide))⟩)
      clear hb0 hb1 fT f1 f3 hK hb
      go_simp
      simpa [upd] using key
    case succ.zero =>
      have d0 := fT 0 _ (haft { on := 0, ground := .data } (by simp) rfl) (by rw [hTM]; rfl)
      have HALL := Aside0.mk (And.intro hK (And.intro hB (And.intro hb0 ( And.intro hb1 ( And.intro fT ( And.intro f1 ( And.intro f3 (True.intro))))))))
      clear hK hb0 hb1 fT f1 f3
      go_simp
      go_at_call 40
      refine (QSg.out _ hB.1).mono ?_
      rintro en w4 ⟨rfl, hb⟩
      obtain ⟨hK, hB, hb0, hb1, fT, f1, f3, _⟩ := HALL.out
      have key := hK.out (.int .i64 sz) w4 (by rw [hGM]; exact ⟨hB.next hb, blk_below hb0 hb, blk_below hb1 hb, tabs_step fT (fun c h => by rw [hTM] at h; cases h), fun _ => by rw [upd_eq], (kv f3 (by decide))⟩)
      clear hb0 hb1 fT f1 f3 hK HALL
      simpa [upd, d0] using key
    case succ.succ.zero =>
      have cc0 := (box_cell (v := .bool b1) hb1 0 rfl).1
      have cc1 := (box_cell (v := .slice A1 n1 c1) hb1 1 rfl).1
      have cc2 := (box_cell (v := .int .i64 x1) hb1 2 rfl).1
      have hb := Below.refl W.heap.size W
      have key := hK.out (.agg #[.bool b1, .slice A1 n1 c1, .int .i64 x1]) W (by rw [hGM]; exact ⟨hB.next hb, blk_below hb0 hb, blk_below hb1 hb, tabs_step fT (fun c h => by rw [hTM] at h; exact Option.some.inj (Option.some.inj h)), (kv f1 (by decide)), (kv f3 (by decide))⟩)
      clear hb0 hb1 fT f1 f3 hK hb
      go_simp
      simpa [upd] using key
    case succ.succ.succ.zero =>
      have d2 := fT 2 _ (haft { on := 2, ground := .data } (by simp) rfl) (by rw [hTM]; rfl)
      have HALL := Aside0.mk (And.intro hK (And.intro hB (And.intro hb0 ( And.intro hb1 ( And.intro fT ( And.intro f1 ( And.intro f3 (True.intro))))))))
      clear hK hb0 hb1 fT f1 f3
      go_simp
      go_at_call 40
      refine (sign_any' _ 0 e' _ (HV.out.below hB.1) LV.out).mono ?_
      rintro en w4 ⟨rfl, hb⟩
      obtain ⟨hK, hB, hb0, hb1, fT, f1, f3, _⟩ := HALL.out
      have key := hK.out (.int .i64 (sgnI 0)) w4 (by rw [hGM]; exact ⟨hB.next hb, blk_below hb0 hb, blk_below hb1 hb, tabs_step fT (fun c h => by rw [hTM] at h; cases h), (kv f1 (by decide)), fun _ => by rw [upd_eq]⟩)
      clear hb0 hb1 fT f1 f3 hK HALL
      simpa [upd, d2] using key
    case succ.succ.succ.succ.zero =>
      have d1 := f1 (haft { on := 1, ground := .data } (by simp) rfl)
      have hb := Below.refl W.heap.size W
      have key := hK.out (.int .i64 sz) W (by rw [hGM]; exact ⟨hB.next hb, blk_below hb0 hb, blk_below hb1 hb, tabs_step fT (fun c h => by rw [hTM] at h; exact Option.some.inj (Option.some.inj h)), (kv f1 (by decide)), (kv f3 (by decide))⟩)
      clear hb0 hb1 fT f1 f3 hK hb
      go_simp
      simpa [upd, d1] using key
    case succ.succ.succ.succ.succ.zero =>
      have d3 := f3 (haft { on := 3, ground := .data } (by simp) rfl)
      have hb := Below.refl W.heap.size W
      have key := hK.out (.int .i64 (sgnI 0)) W (by rw [hGM]; exact ⟨hB.next hb, blk_below hb0 hb, blk_below hb1 hb, tabs_step fT (fun c h => by rw [hTM] at h; exact Option.some.inj (Option.some.inj h)), (kv f1 (by decide)), (kv f3 (by decide))⟩)
      clear hb0 hb1 fT f1 f3 hK hb
      go_simp
      simpa [upd, d3] using key
  case hendM =>
    intro v W L0 hall hGv
    rw [hGM] at hGv
    obtain ⟨hB, hb0, hb1, fT, f1, f3⟩ := hGv
    have d4 := fT 4 _ (hall 4 (by decide)) (by rw [hTM]; rfl)
    have d5 := fT 5 _ (hall 5 (by decide)) (by rw [hTM]; rfl)
    replace BEL := Aside0.mk hB
    clear hall hB fT f1 f3 hb0 hb1 X0 X1
    simp only [setAll, List.setIfInBounds_toArray, List.set_cons_zero, List.set_cons_succ, Nat.reduceAdd, d4, d5]
    clear d4 d5
    have hsz : sgnI 0 = 0 := rfl
    rw [hsz]
    clear hsz
    rcases hs with rfl | rfl | rfl
    all_goals (
      go_wp2
      go_ret
      exact ⟨rfl, BEL.out.1⟩)

set_option maxRecDepth 100000 in
set_option maxHeartbeats 8000000 in
theorem order_zero {u : Value} {z e : Int} {w : World} (h : CDy w u z e) (o : Ok z e) :
    Calls Tryd.prog 26 #[u, .int .i64 0] w fun en w' => en = .returned (.int .i64 (sgnI z)) ∧ Below w.heap.size w w' := by
  obtain ⟨b0, A, n0, c, x0, rfl⟩ := h.ex
  have HU := Aside0.mk h
  have OU := Aside0.mk o
  clear h o
  go_enter Tryd.func26, Tryd.ntmps26
  go_upto_region 1 with fail
  have BEL : Aside0 (BelN w 1 (w.alloc (.cells #[.bool b0, .slice A n0 c, .int .i64 x0] 27))) := ⟨((BelN.zero w).alloc _).less (by decide)⟩
  have X0 : Aside0 ((w.alloc (.cells #[.bool b0, .slice A n0 c, .int .i64 x0] 27)).heap[w.heap.size]? = some (.cells #[.bool b0, .slice A n0 c, .int .i64 x0] 27 (0, 0))) := ⟨by have h := blk_new w (.cells #[.bool b0, .slice A n0 c, .int .i64 x0] 27); exact h⟩
  obtain ⟨TM, hTM⟩ : ∃ T : List (Option Value), T = [some (.agg #[.bool b0, .slice A n0 c, .int .i64 x0]), some (.int .i64 0), none, none, some (.int .i64 (sgnI z))] := ⟨_, rfl⟩
  obtain ⟨GM, hGM⟩ : ∃ G : (Nat → Prop) → (Nat → Value) → World → Prop, G = fun L v W => BelN w 1 W ∧ W.heap[w.heap.size]? = some (.cells #[.bool b0, .slice A n0 c, .int .i64 x0] 27 (0, 0)) ∧ (∀ j c, L j → TM[j]? = some (some c) → v j = c) ∧ (L 2 → CDy W (v 2) 0 0) ∧ (L 3 → (v 3) = .int .i64 (sgnI z)) := ⟨_, rfl⟩
  refine wp_region_slotsV [5, 6, 7, 8, 4] (by kernel_rfl) (by kernel_rfl) (G := GM) ?h0M ?hstepM ?hendM
  case h0M =>
    intro v; rw [hGM]
    exact ⟨BEL.out.next (below_drew (Below.refl _ _)), blk_drew X0.out, fun _ _ h => h.elim, fun h => h.elim, fun h => h.elim⟩
  case hstepM =>
    intro k o ho v W L hGv hnk haft hcl K hK
    rw [hGM] at hGv
    obtain ⟨hB, hb0, fT, f2, f3⟩ := hGv
    rcases k with _ | _ | _ | _ | _ | k
    all_goals first
      | (cases ho; done)
      | (obtain rfl := (Option.some.inj ho).symm
         clear ho
         rw [if_pos (by rfl)]
         simp only [setAll, List.setIfInBounds_toArray, List.set_cons_zero, List.set_cons_succ, List.set_nil, List.getElem_toArray, List.getElem_cons_zero, List.getElem_cons_succ, Nat.reduceAdd] at haft hK ⊢)
    case zero =>
      have cc0 := (box_cell (v := .bool b0) hb0 0 rfl).1
      have cc1 := (box_cell (v := .slice A n0 c) hb0 1 rfl).1
      have cc2 := (box_cell (v := .int .i64 x0) hb0 2 rfl).1
      have hb := Below.refl W.heap.size W
      have key := hK.out (.agg #[.bool b0, .slice A n0 c, .int .i64 x0]) W (by rw [hGM]; exact ⟨hB.next hb, blk_below hb0 hb, tabs_step fT (fun c h => by rw [hTM] at h; exact Option.some.inj (Option.some.inj h)), (fun h0 => by rw [upd_ne v _ (by decide)]; have h := f2 (h0.resolve_right (by decide)); exact (h.below hb)), (kv f3 (by decide))⟩)
      clear hb0 fT f2 f3 hK hb
      go_simp
      simpa [upd] using key
    case succ.zero =>
      have hb := Below.refl W.heap.size W
      have key := hK.out (.int .i64 0) W (by rw [hGM]; exact ⟨hB.next hb, blk_below hb0 hb, tabs_step fT (fun c h => by rw [hTM] at h; exact Option.some.inj (Option.some.inj h)), (fun h0 => by rw [upd_ne v _ (by decide)]; have h := f2 (h0.resolve_right (by decide)); exact (h.below hb)), (kv f3 (by decide))⟩)
      clear hb0 fT f2 f3 hK hb
      go_simp
      simpa [upd] using key
    case succ.succ.zero =>
      have d1 := fT 1 _ (haft { on := 1, ground := .data } (by simp) rfl) (by rw [hTM]; rfl)
      have HALL := Aside0.mk (And.intro hK (And.intro hB (And.intro hb0 ( And.intro fT ( And.intro f2 ( And.intro f3 (True.intro)))))))
      clear hK hb0 fT f2 f3
      go_simp
      go_at_call 14
      refine (dint_any 0 _ (by decide) (by decide)).mono ?_
      rintro en w4 ⟨v1, rfl, hr, hb⟩
      obtain ⟨hK, hB, hb0, fT, f2, f3, _⟩ := HALL.out
      have key := hK.out (v1) w4 (by rw [hGM]; exact ⟨hB.next hb, blk_below hb0 hb, tabs_step fT (fun c h => by rw [hTM] at h; cases h), fun _ => by rw [upd_eq]; exact hr.c, (kv f3 (by decide))⟩)
      clear hb0 fT f2 f3 hK HALL
      simpa [upd, d1] using key
    case succ.succ.succ.zero =>
      have d0 := fT 0 _ (haft { on := 0, ground := .data } (by simp) rfl) (by rw [hTM]; rfl)
      have d2 := f2 (haft { on := 2, ground := .data } (by simp) rfl)
      have HALL := Aside0.mk (And.intro hK (And.intro hB (And.intro hb0 ( And.intro fT ( And.intro f2 ( And.intro f3 (True.intro)))))))
      clear hK hb0 fT f2 f3
      go_simp
      go_at_call 16
      refine (dorder_zero (HU.out.below hB.1) d2 OU.out (ok_small (by decide) (by decide) (by decide))).mono ?_
      rintro en w4 ⟨rfl, hb⟩
      obtain ⟨hK, hB, hb0, fT, f2, f3, _⟩ := HALL.out
      have key := hK.out (.int .i64 (sgnI z)) w4 (by rw [hGM]; exact ⟨hB.next hb, blk_below hb0 hb, tabs_step fT (fun c h => by rw [hTM] at h; cases h), (fun h0 => by rw [upd_ne v _ (by decide)]; have h := f2 (h0.resolve_right (by decide)); exact (h.below hb)), fun _ => by rw [upd_eq]⟩)
      clear hb0 fT f2 f3 hK HALL
      simpa [upd, d0] using key
    case succ.succ.succ.succ.zero =>
      have d3 := f3 (haft { on := 3, ground := .data } (by simp) rfl)
      have hb := Below.refl W.heap.size W
      have key := hK.out (.int .i64 (sgnI z)) W (by rw [hGM]; exact ⟨hB.next hb, blk_below hb0 hb, tabs_step fT (fun c h => by rw [hTM] at h; exact Option.some.inj (Option.some.inj h)), (fun h0 => by rw [upd_ne v _ (by decide)]; have h := f2 (h0.resolve_right (by decide)); exact (h.below hb)), (kv f3 (by decide))⟩)
      clear hb0 fT f2 f3 hK hb
      go_simp
      simpa [upd, d3] using key
  case hendM =>
    intro v W L0 hall hGv
    rw [hGM] at hGv
    obtain ⟨hB, hb0, fT, f2, f3⟩ := hGv
    have d4 := fT 4 _ (hall 4 (by decide)) (by rw [hTM]; rfl)
    replace BEL := Aside0.mk hB
    clear hall hB fT f2 f3 hb0 X0
    simp only [setAll, List.setIfInBounds_toArray, List.set_cons_zero, List.set_cons_succ, Nat.reduceAdd, d4]
    clear d4
    go_wp2
    go_ret
    exact ⟨rfl, BEL.out.1⟩
end Go.Proofs.YtgpjplelgffocaaDoor

namespace Go.Proofs.YtgpjplelgffocaaDoor
open Go.RowKit Go.Proofs.YtgpjplelgffocaaDoorW.PrintWords Limb
set_option linter.unusedVariables false
set_option linter.unusedSimpArgs false

theorem ang_lit (p : Int) (m : Nat) (e : Int) (hm : m = 1 ∨ m = 3) : limbs (cman (sgn (cneg p) m)) = [m] ∧ cexp (sgn (cneg p) m) e = e ∧ cneg (sgn (cneg p) m) = cneg p := by
  have c1 : cman 1 = 1 := cman_one
  have c3 : cman 3 = 3 := by kernel_rfl
  have key : ∀ m : Nat, m % 2 = 1 → cman (m : Int) = m → limbs m = [m] → limbs (cman (sgn (cneg p) m)) = [m] ∧ cexp (sgn (cneg p) m) e = e ∧ cneg (sgn (cneg p) m) = cneg p := by
    intro m ho hc hl
    have ha : (sgn (cneg p) m).natAbs = m := sgn_abs _ _
    refine ⟨?_, ?_, ?_⟩
    · unfold cman at hc ⊢
      rw [ha]
      rw [Int.natAbs_natCast] at hc
      rw [hc]; exact hl
    · unfold cexp
      rw [ha, tz_odd ho]
      split <;> rename_i h0
      · exfalso; rw [h0] at ha; simp at ha; omega
      · simp
    · cases hb : cneg p with
      | false => unfold cneg; exact decide_eq_false (by show ¬ ((m : Int) < 0); omega)
      | true => unfold cneg; exact decide_eq_true (by show -(m : Int) < 0; omega)
  rcases hm with rfl | rfl
  · exact key 1 rfl c1 (limbs_one (by decide) (by decide))
  · exact key 3 rfl c3 (limbs_one (by decide) (by decide))
theorem sgn_p {p : Int} (h : p ≠ 0) (m : Nat) : sgn (cneg p) m = m * sgnI p := by
  unfold sgnI cneg
  by_cases h1 : p < 0
  · rw [decide_eq_true h1]
    show -(m : Int) = _
    repeat' split
    all_goals omega
  · rw [decide_eq_false h1]
    show (m : Int) = _
    repeat' split
    all_goals omega
theorem RDy.lit {w : World} {b0 g m : Nat} {e p : Int} {bb : Bool} (h : kU.R 23 w b0 (fun _ => True) (.slice (some ⟨g, 0, none⟩) 1 1) [m]) (hm : m = 1 ∨ m = 3) (hb : bb = cneg p) :
    RDy w b0 (.agg #[.bool bb, .slice (some ⟨g, 0, none⟩) 1 1, .int .i64 e]) (sgn (cneg p) m) e := by
  obtain ⟨l1, l2, l3⟩ := ang_lit p m e hm
  exact ⟨_, 1, 1, by rw [l2, l3, hb], by rw [l1]; exact h⟩
/-- The document's case of a point. -/
def docF (f : Nat) (p q : Int) (eqA : Bool) : Option (Int × Int) :=
  if f = 33 then (if p = 0 ∧ 0 < q then some (0, 0) else none)
  else if p = 0 ∧ 0 < q then some (0, 0) else if p = 0 then some (1, 0) else if q = 0 then some (sgn (cneg p) 1, -1)
  else if eqA = false then none else if 0 < q then some (sgn (cneg p) 1, -2) else some (sgn (cneg p) 3, -2)
theorem docF_ang (f : Nat) (p q : Int) : docF f p q (decide ((p.natAbs : Int) = q.natAbs)) = angF f p q := by
  unfold docF angF
  by_cases h3 : p = 0
  · by_cases h5 : 0 < q <;> by_cases h2 : f = 33 <;> simp only [h3, h5, h2, true_and, and_self, and_false, if_true, if_false]
  · have e1 := sgn_p h3 1
    have e3 := sgn_p h3 3
    have e1' : ((1 : Nat) : Int) * sgnI p = sgnI p := by rw [Int.natCast_one, Int.one_mul]
    have e3' : ((3 : Nat) : Int) * sgnI p = 3 * sgnI p := rfl
    rw [e1'] at e1
    rw [e3'] at e3
    simp only [e1, e3, h3, false_and, if_false]
    by_cases h2 : f = 33
    · simp only [h2, if_true]
    · by_cases hq : q = 0
      · simp only [h2, hq, if_false, if_true]; rfl
      · by_cases ha : (p.natAbs : Int) = q.natAbs
        · rw [decide_eq_true ha]
          by_cases h5 : 0 < q
          · simp only [h2, hq, ha, h5, if_false, if_true, not_true, reduceCtorEq]; rfl
          · simp only [h2, hq, ha, h5, if_false, if_true, not_true, reduceCtorEq]; rfl
        · rw [decide_eq_false ha]
          simp only [h2, hq, ha, if_false, if_true, not_false_eq_true]

set_option maxRecDepth 100000 in
set_option maxHeartbeats 8000000 in
theorem dexact2_any (f y x : Nat) (hf : f < 256) (hy : y < 18446744073709551616) (hx : x < 18446744073709551616) (w : World) (hT : TabAt 0 Lib.deBruijn64tab w) :
    Calls Tryd.prog 8 #[.int .u8 f, .int .u64 (y : Int), .int .u64 (x : Int)] w fun en w' => ∃ v', en = .returned (.tuple #[v', .bool (exO2 f y x).isSome, .int .i64 (exE2 f y x)]) ∧ RDy w' w.heap.size v' ((exO2 f y x).getD (0, 0)).1 ((exO2 f y x).getD (0, 0)).2 ∧ Below w.heap.size w w' := by
  have HF := Aside0.mk hf
  have QFy := Aside0.mk (fun (W : World) => dfrom_any y hy W)
  have QFx := Aside0.mk (fun (W : World) => dfrom_any x hx W)
  have QIs := Aside0.mk (fun (W : World) => dis2_one f hf W)
  have HE := Aside0.mk (show exE2 f y x = if is2F f = true then (if (!finB y || !finB x || (decide (fromV y = 0) && decide (fromV x = 0))) = true then 5 else 0) else 2 from rfl)
  have HO := Aside0.mk (show exO2 f y x = if is2F f = true ∧ (!finB y || !finB x || (decide (fromV y = 0) && decide (fromV x = 0))) = false then docF f (fromV y) (fromV x) (decide (((fromV y).natAbs : Int) = (fromV x).natAbs)) else none from by rw [docF_ang]; rfl)
  have HZY := Aside0.mk (ok_z (fromV_small y))
  have HZX := Aside0.mk (ok_z (fromV_small x))
  have HAB := Aside0.mk (fun (h1 : finB y = true) (h2 : finB x = true) => (by
    unfold fromV; rw [if_pos h1, if_pos h2]; exact abs_iff : ((fromV y).natAbs : Int) = (fromV x).natAbs ↔ x % 9223372036854775808 = y % 9223372036854775808))
  obtain ⟨eo, heo⟩ : ∃ o, o = exO2 f y x := ⟨_, rfl⟩
  obtain ⟨ee, hee⟩ : ∃ o, o = exE2 f y x := ⟨_, rfl⟩
  rw [← heo] at HO ⊢
  rw [← hee] at HE ⊢
  clear hf hx hy heo hee
  generalize fromV y = p at *
  generalize fromV x = q at *
  generalize is2F f = isf at *
  generalize finB x = finx at *
  generalize finB y = finy at *
  go_enter Tryd.func8, Tryd.ntmps8
  have BEL : Aside0 (BelN w 1 (w.alloc (.cells #[.bool false, .slice none 0 0, .int .i64 0] 27))) := ⟨((BelN.zero w).alloc _).less (by decide)⟩
  have XR : Aside0 ((w.alloc (.cells #[.bool false, .slice none 0 0, .int .i64 0] 27)).heap[w.heap.size]? = some (.cells #[.bool false, .slice none 0 0, .int .i64 0] 27 (0, 0))) := ⟨by have h := blk_new w (.cells #[.bool false, .slice none 0 0, .int .i64 0] 27); exact h⟩
  go_wp2_with fail
  go_at_call 24
  refine (QIs.out _).mono ?_
  rintro en1 w1 ⟨rfl, hb⟩
  replace BEL := Aside0.mk (BEL.out.next hb)
  replace XR := Aside0.mk (blk_below XR.out hb)
  clear hb
  cases isf
  case false =>
    have HEE : Aside0 (ee = 2) := ⟨by rw [HE.out]; rfl⟩
    have HOO : Aside0 (eo = none) := ⟨by rw [HO.out, if_neg (fun h => by cases h.1)]⟩
    go_wp2_with (((with_reducible refine gate_store (p := 6) rfl ?_); go_must (refine store_box 27 6 (.tmp 16) rfl rfl rfl (g := w.heap.size) (e := 27) (.agg #[.bool false, .slice none 0 0, .int .i64 0]) ([.bool false, .slice none 0 0, .int .i64 0]) rfl rfl rfl info_dyad ?b1 XR.out rfl ?_; (case b1 => intro q hq; simp at hq; rcases hq with rfl | rfl | rfl <;> rfl); intro wb hbx hgx; have HX := Aside0.mk hbx; have HG := Aside0.mk hgx; clear hbx hgx)); replace BEL := Aside0.mk (BEL.out.grown HG.out (by omega)); replace XR := HX; clear HG)
    refine bodyPost_ret (results_list (rs := [.cell 6 27, .tmp 7, .tmp 8]) rfl (by simp) (Vals.box any_dyad info_dyad (g := w.heap.size) rfl XR.out rfl (.tmp (.tmp .nil)))) rfl ?_
    rw [HEE.out, HOO.out]
    exact ⟨_, rfl, RDy.zero _ _ _, BEL.out.1⟩
  case true =>
    go_wp2_with fail
    go_at_call 25
    refine (QFy.out _).mono ?_
    rintro en2 w2 ⟨v2, rfl, hr, hb⟩
    replace BEL := Aside0.mk (BEL.out.next hb)
    replace XR := Aside0.mk (blk_below XR.out hb)
    have PY := Aside0.mk hr
    obtain ⟨b2, A2, n2, c2, x2, rfl⟩ := hr.ex
    clear hr hb
    have BELo := BEL
    go_wp2_with (replace BEL := Aside0.mk ((BEL.out.alloc (.cells #[.bool false, .slice none 0 0, .int .i64 0] 27)).less (j := 1) (by omega)); have HN := Aside0.mk (blk_new w2 (.cells #[.bool false, .slice none 0 0, .int .i64 0] 27)); have L_XR := lt_blk XR.out; replace XR := Aside0.mk (blk_alloc XR.out (.cells #[.bool false, .slice none 0 0, .int .i64 0] 27)); replace PY := Aside0.mk (PY.out.below (below_alloc (Below.refl _ _) (.cells #[.bool false, .slice none 0 0, .int .i64 0] 27))); ((with_reducible refine gate_store (p := 9) rfl ?_); go_must (refine store_box 27 9 (.tmp 20) rfl rfl rfl (g := w2.heap.size) (e := 27) (.agg #[.bool b2, .slice A2 n2 c2, .int .i64 x2]) ([.bool b2, .slice A2 n2 c2, .int .i64 x2]) rfl rfl rfl info_dyad ?b1 HN.out rfl ?_; (case b1 => intro q hq; simp at hq; rcases hq with rfl | rfl | rfl <;> rfl); intro wb hbx hgx; have HX := Aside0.mk hbx; have HG := Aside0.mk hgx; clear hbx hgx)); replace PY := Aside0.mk (PY.out.grown_box HN.out (by decide) HG.out); have LB_XY := BELo.out.2; replace BEL := Aside0.mk (BEL.out.grown HG.out (Nat.le_trans (Nat.le_add_right _ _) LB_XY)); replace XR := Aside0.mk (blk_grown XR.out HG.out (Nat.ne_of_lt L_XR)); have NE_XR_XY := Aside0.mk (Nat.ne_of_lt L_XR); clear L_XR; have LL_XY := Aside0.mk LB_XY; clear LB_XY; have XY := HX; clear HG HN HX)
    go_at_call 25
    refine (QFx.out _).mono ?_
    rintro en3 w3 ⟨v3, rfl, hr, hb⟩
    replace BEL := Aside0.mk (BEL.out.next hb)
    replace XR := Aside0.mk (blk_below XR.out hb)
    replace XY := Aside0.mk (blk_below XY.out hb)
    replace PY := Aside0.mk (PY.out.below hb)
    have PX := Aside0.mk hr
    obtain ⟨b3, A3, n3, c3, x3, rfl⟩ := hr.ex
    clear hr hb
    have he0 : errB true = 0 := rfl
    have he5 : errB false = 5 := rfl
    cases finy
    case false =>
      have HEE : Aside0 (ee = 5) := ⟨by rw [HE.out]; rfl⟩
      have HOO : Aside0 (eo = none) := ⟨by rw [HO.out, if_neg (fun h => by have := h.2; cases this)]⟩
      have BELo := BEL
      go_wp2_with (first | (replace BEL := Aside0.mk ((BEL.out.alloc (.cells #[.bool false, .slice none 0 0, .int .i64 0] 27)).less (j := 1) (by omega)); have HN := Aside0.mk (blk_new w3 (.cells #[.bool false, .slice none 0 0, .int .i64 0] 27)); have L_XR := lt_blk XR.out; replace XR := Aside0.mk (blk_alloc XR.out (.cells #[.bool false, .slice none 0 0, .int .i64 0] 27)); have L_XY := lt_blk XY.out; replace XY := Aside0.mk (blk_alloc XY.out (.cells #[.bool false, .slice none 0 0, .int .i64 0] 27)); replace PY := Aside0.mk (PY.out.below (below_alloc (Below.refl _ _) (.cells #[.bool false, .slice none 0 0, .int .i64 0] 27))); replace PX := Aside0.mk (PX.out.below (below_alloc (Below.refl _ _) (.cells #[.bool false, .slice none 0 0, .int .i64 0] 27))); ((with_reducible refine gate_store (p := 11) rfl ?_); go_must (refine store_box 27 11 (.tmp 25) rfl rfl rfl (g := w3.heap.size) (e := 27) (.agg #[.bool b3, .slice A3 n3 c3, .int .i64 x3]) ([.bool b3, .slice A3 n3 c3, .int .i64 x3]) rfl rfl rfl info_dyad ?b1 HN.out rfl ?_; (case b1 => intro q hq; simp at hq; rcases hq with rfl | rfl | rfl <;> rfl); intro wb hbx hgx; have HX := Aside0.mk hbx; have HG := Aside0.mk hgx; clear hbx hgx)); replace PY := Aside0.mk (PY.out.grown_box HN.out (by decide) HG.out); replace PX := Aside0.mk (PX.out.grown_box HN.out (by decide) HG.out); have LB_XX := BELo.out.2; replace BEL := Aside0.mk (BEL.out.grown HG.out (Nat.le_trans (Nat.le_add_right _ _) LB_XX)); replace XR := Aside0.mk (blk_grown XR.out HG.out (Nat.ne_of_lt L_XR)); replace XY := Aside0.mk (blk_grown XY.out HG.out (Nat.ne_of_lt L_XY)); have NE_XR_XX := Aside0.mk (Nat.ne_of_lt L_XR); have NE_XY_XX := Aside0.mk (Nat.ne_of_lt L_XY); clear L_XR; clear L_XY; have LL_XX := Aside0.mk LB_XX; clear LB_XX; have XX := HX; clear HG HN HX) | (((with_reducible refine gate_store (p := 6) rfl ?_); go_must (refine store_box 27 6 (.tmp 41) rfl rfl rfl (g := w.heap.size) (e := 27) (.agg #[.bool false, .slice none 0 0, .int .i64 0]) ([.bool false, .slice none 0 0, .int .i64 0]) rfl rfl rfl info_dyad ?b1 XR.out rfl ?_; (case b1 => intro q hq; simp at hq; rcases hq with rfl | rfl | rfl <;> rfl); intro wb hbx hgx; have HX := Aside0.mk hbx; have HG := Aside0.mk hgx; clear hbx hgx)); replace PY := Aside0.mk (PY.out.grown_box XR.out (by decide) HG.out); replace PX := Aside0.mk (PX.out.grown_box XR.out (by decide) HG.out); replace BEL := Aside0.mk (BEL.out.grown HG.out (by omega)); replace XY := Aside0.mk (blk_grown XY.out HG.out (Ne.symm NE_XR_XY.out)); replace XX := Aside0.mk (blk_grown XX.out HG.out (Ne.symm NE_XR_XX.out)); replace XR := HX; clear HG))
      refine bodyPost_ret (results_list (rs := [.cell 6 27, .tmp 7, .tmp 8]) rfl (by simp) (Vals.box any_dyad info_dyad (g := w.heap.size) rfl XR.out rfl (.tmp (.tmp .nil)))) rfl ?_
      rw [HEE.out, HOO.out]
      exact ⟨_, rfl, RDy.zero _ _ _, BEL.out.1⟩
    case true =>
      cases finx
      case false =>
        have HEE : Aside0 (ee = 5) := ⟨by rw [HE.out]; rfl⟩
        have HOO : Aside0 (eo = none) := ⟨by rw [HO.out, if_neg (fun h => by have := h.2; cases this)]⟩
        have BELo := BEL
        go_wp2_with (first | (replace BEL := Aside0.mk ((BEL.out.alloc (.cells #[.bool false, .slice none 0 0, .int .i64 0] 27)).less (j := 1) (by omega)); have HN := Aside0.mk (blk_new w3 (.cells #[.bool false, .slice none 0 0, .int .i64 0] 27)); have L_XR := lt_blk XR.out; replace XR := Aside0.mk (blk_alloc XR.out (.cells #[.bool false, .slice none 0 0, .int .i64 0] 27)); have L_XY := lt_blk XY.out; replace XY := Aside0.mk (blk_alloc XY.out (.cells #[.bool false, .slice none 0 0, .int .i64 0] 27)); replace PY := Aside0.mk (PY.out.below (below_alloc (Below.refl _ _) (.cells #[.bool false, .slice none 0 0, .int .i64 0] 27))); replace PX := Aside0.mk (PX.out.below (below_alloc (Below.refl _ _) (.cells #[.bool false, .slice none 0 0, .int .i64 0] 27))); ((with_reducible refine gate_store (p := 11) rfl ?_); go_must (refine store_box 27 11 (.tmp 25) rfl rfl rfl (g := w3.heap.size) (e := 27) (.agg #[.bool b3, .slice A3 n3 c3, .int .i64 x3]) ([.bool b3, .slice A3 n3 c3, .int .i64 x3]) rfl rfl rfl info_dyad ?b1 HN.out rfl ?_; (case b1 => intro q hq; simp at hq; rcases hq with rfl | rfl | rfl <;> rfl); intro wb hbx hgx; have HX := Aside0.mk hbx; have HG := Aside0.mk hgx; clear hbx hgx)); replace PY := Aside0.mk (PY.out.grown_box HN.out (by decide) HG.out); replace PX := Aside0.mk (PX.out.grown_box HN.out (by decide) HG.out); have LB_XX := BELo.out.2; replace BEL := Aside0.mk (BEL.out.grown HG.out (Nat.le_trans (Nat.le_add_right _ _) LB_XX)); replace XR := Aside0.mk (blk_grown XR.out HG.out (Nat.ne_of_lt L_XR)); replace XY := Aside0.mk (blk_grown XY.out HG.out (Nat.ne_of_lt L_XY)); have NE_XR_XX := Aside0.mk (Nat.ne_of_lt L_XR); have NE_XY_XX := Aside0.mk (Nat.ne_of_lt L_XY); clear L_XR; clear L_XY; have LL_XX := Aside0.mk LB_XX; clear LB_XX; have XX := HX; clear HG HN HX) | (((with_reducible refine gate_store (p := 6) rfl ?_); go_must (refine store_box 27 6 (.tmp 41) rfl rfl rfl (g := w.heap.size) (e := 27) (.agg #[.bool false, .slice none 0 0, .int .i64 0]) ([.bool false, .slice none 0 0, .int .i64 0]) rfl rfl rfl info_dyad ?b1 XR.out rfl ?_; (case b1 => intro q hq; simp at hq; rcases hq with rfl | rfl | rfl <;> rfl); intro wb hbx hgx; have HX := Aside0.mk hbx; have HG := Aside0.mk hgx; clear hbx hgx)); replace PY := Aside0.mk (PY.out.grown_box XR.out (by decide) HG.out); replace PX := Aside0.mk (PX.out.grown_box XR.out (by decide) HG.out); replace BEL := Aside0.mk (BEL.out.grown HG.out (by omega)); replace XY := Aside0.mk (blk_grown XY.out HG.out (Ne.symm NE_XR_XY.out)); replace XX := Aside0.mk (blk_grown XX.out HG.out (Ne.symm NE_XR_XX.out)); replace XR := HX; clear HG))
        refine bodyPost_ret (results_list (rs := [.cell 6 27, .tmp 7, .tmp 8]) rfl (by simp) (Vals.box any_dyad info_dyad (g := w.heap.size) rfl XR.out rfl (.tmp (.tmp .nil)))) rfl ?_
        rw [HEE.out, HOO.out]
        exact ⟨_, rfl, RDy.zero _ _ _, BEL.out.1⟩
      case true =>
        have HAA := Aside0.mk (HAB.out (by simp) (by simp))
        obtain ⟨q0, q0'⟩ := box_cell XY.out 0 rfl
        obtain ⟨q1, q1'⟩ := box_cell XY.out 1 rfl
        obtain ⟨q2, q2'⟩ := box_cell XY.out 2 rfl
        have BELo := BEL
        go_wp2_with (clear q0 q0' q1 q1' q2 q2'; replace BEL := Aside0.mk ((BEL.out.alloc (.cells #[.bool false, .slice none 0 0, .int .i64 0] 27)).less (j := 1) (by omega)); have HN := Aside0.mk (blk_new w3 (.cells #[.bool false, .slice none 0 0, .int .i64 0] 27)); have L_XR := lt_blk XR.out; replace XR := Aside0.mk (blk_alloc XR.out (.cells #[.bool false, .slice none 0 0, .int .i64 0] 27)); have L_XY := lt_blk XY.out; replace XY := Aside0.mk (blk_alloc XY.out (.cells #[.bool false, .slice none 0 0, .int .i64 0] 27)); replace PY := Aside0.mk (PY.out.below (below_alloc (Below.refl _ _) (.cells #[.bool false, .slice none 0 0, .int .i64 0] 27))); replace PX := Aside0.mk (PX.out.below (below_alloc (Below.refl _ _) (.cells #[.bool false, .slice none 0 0, .int .i64 0] 27))); ((with_reducible refine gate_store (p := 11) rfl ?_); go_must (refine store_box 27 11 (.tmp 25) rfl rfl rfl (g := w3.heap.size) (e := 27) (.agg #[.bool b3, .slice A3 n3 c3, .int .i64 x3]) ([.bool b3, .slice A3 n3 c3, .int .i64 x3]) rfl rfl rfl info_dyad ?b1 HN.out rfl ?_; (case b1 => intro q hq; simp at hq; rcases hq with rfl | rfl | rfl <;> rfl); intro wb hbx hgx; have HX := Aside0.mk hbx; have HG := Aside0.mk hgx; clear hbx hgx)); replace PY := Aside0.mk (PY.out.grown_box HN.out (by decide) HG.out); replace PX := Aside0.mk (PX.out.grown_box HN.out (by decide) HG.out); have LB_XX := BELo.out.2; replace BEL := Aside0.mk (BEL.out.grown HG.out (Nat.le_trans (Nat.le_add_right _ _) LB_XX)); replace XR := Aside0.mk (blk_grown XR.out HG.out (Nat.ne_of_lt L_XR)); replace XY := Aside0.mk (blk_grown XY.out HG.out (Nat.ne_of_lt L_XY)); have NE_XR_XX := Aside0.mk (Nat.ne_of_lt L_XR); have NE_XY_XX := Aside0.mk (Nat.ne_of_lt L_XY); clear L_XR; clear L_XY; have LL_XX := Aside0.mk LB_XX; clear LB_XX; have XX := HX; clear HG HN HX; obtain ⟨q3, q3'⟩ := box_cell XY.out 0 rfl; obtain ⟨q4, q4'⟩ := box_cell XY.out 1 rfl; obtain ⟨q5, q5'⟩ := box_cell XY.out 2 rfl)
        clear q3 q3' q4 q4' q5 q5'
        go_at_call 12
        refine (zero_any _ p (-1074) _ PY.out.c HZY.out.len30).mono ?_
        rintro en4 w4 ⟨rfl, hb⟩
        replace BEL := Aside0.mk (BEL.out.next hb)
        replace XR := Aside0.mk (blk_below XR.out hb)
        replace XY := Aside0.mk (blk_below XY.out hb)
        replace XX := Aside0.mk (blk_below XX.out hb)
        replace PY := Aside0.mk (PY.out.below hb)
        replace PX := Aside0.mk (PX.out.below hb)
        clear hb
        by_cases hp : p = 0
        case pos =>
          have hd : decide (p = 0) = true := decide_eq_true hp
          have HP0 := Aside0.mk hp
          clear hp
          obtain ⟨q6, q6'⟩ := box_cell XX.out 0 rfl
          obtain ⟨q7, q7'⟩ := box_cell XX.out 1 rfl
          obtain ⟨q8, q8'⟩ := box_cell XX.out 2 rfl
          go_wp2_with fail
          clear q6 q6' q7 q7' q8 q8'
          go_at_call 12
          refine (zero_any _ q (-1074) _ PX.out.c HZX.out.len30).mono ?_
          rintro en5 w5 ⟨rfl, hb⟩
          replace BEL := Aside0.mk (BEL.out.next hb)
          replace XR := Aside0.mk (blk_below XR.out hb)
          replace XY := Aside0.mk (blk_below XY.out hb)
          replace XX := Aside0.mk (blk_below XX.out hb)
          replace PY := Aside0.mk (PY.out.below hb)
          replace PX := Aside0.mk (PX.out.below hb)
          clear hb
          by_cases hq : q = 0
          case pos =>
            have hdq : decide (q = 0) = true := decide_eq_true hq
            have HEE : Aside0 (ee = 5) := ⟨by rw [HE.out]; rw [hd, hdq]; rfl⟩
            have HOO : Aside0 (eo = none) := ⟨by rw [HO.out, if_neg (fun h => by have := h.2; rw [hd, hdq] at this; cases this)]⟩
            clear hq
            go_wp2_with (((with_reducible refine gate_store (p := 6) rfl ?_); go_must (refine store_box 27 6 (.tmp 41) rfl rfl rfl (g := w.heap.size) (e := 27) (.agg #[.bool false, .slice none 0 0, .int .i64 0]) ([.bool false, .slice none 0 0, .int .i64 0]) rfl rfl rfl info_dyad ?b1 XR.out rfl ?_; (case b1 => intro q hq; simp at hq; rcases hq with rfl | rfl | rfl <;> rfl); intro wb hbx hgx; have HX := Aside0.mk hbx; have HG := Aside0.mk hgx; clear hbx hgx)); replace PY := Aside0.mk (PY.out.grown_box XR.out (by decide) HG.out); replace PX := Aside0.mk (PX.out.grown_box XR.out (by decide) HG.out); replace BEL := Aside0.mk (BEL.out.grown HG.out (by omega)); replace XY := Aside0.mk (blk_grown XY.out HG.out (Ne.symm NE_XR_XY.out)); replace XX := Aside0.mk (blk_grown XX.out HG.out (Ne.symm NE_XR_XX.out)); replace XR := HX; clear HG)
            refine bodyPost_ret (results_list (rs := [.cell 6 27, .tmp 7, .tmp 8]) rfl (by simp) (Vals.box any_dyad info_dyad (g := w.heap.size) rfl XR.out rfl (.tmp (.tmp .nil)))) rfl ?_
            rw [HEE.out, HOO.out]
            exact ⟨_, rfl, RDy.zero _ _ _, BEL.out.1⟩
          case neg =>
            have hdq : decide (q = 0) = false := decide_eq_false hq
            have HEE : Aside0 (ee = 0) := ⟨by rw [HE.out, hd, hdq]; rfl⟩
            have HO2 := Aside0.mk (show eo = docF f p q (decide ((p.natAbs : Int) = q.natAbs)) from by rw [HO.out, if_pos (by rw [hd, hdq]; simp)])
            have HQ0 := Aside0.mk hq
            have hsg := Aside0.mk (sgn_pos q)
            clear hq
            by_cases hf3 : f = 33
            case pos =>
              have hff : ((f : Int) == 33) = true := by simp; omega
              by_cases hq1 : 0 < q
              case pos =>
                have hs : decide (0 < sgnI q) = true := by rw [hsg.out]; exact decide_eq_true hq1
                have HOO : Aside0 (eo = some (0, 0)) := ⟨by rw [HO2.out]; unfold docF; rw [if_pos hf3, if_pos ⟨HP0.out, hq1⟩]⟩
                clear hf3 hq1
                obtain ⟨q9, q9'⟩ := box_cell XY.out 0 rfl
                obtain ⟨q10, q10'⟩ := box_cell XY.out 1 rfl
                obtain ⟨q11, q11'⟩ := box_cell XY.out 2 rfl
                obtain ⟨q12, q12'⟩ := box_cell XX.out 0 rfl
                obtain ⟨q13, q13'⟩ := box_cell XX.out 1 rfl
                obtain ⟨q14, q14'⟩ := box_cell XX.out 2 rfl
                go_wp2_with fail
                clear q9 q9' q10 q10' q11 q11' q12 q12' q13 q13' q14 q14'
                go_at_call 12
                refine (zero_any _ p (-1074) _ PY.out.c HZY.out.len30).mono ?_
                rintro en6 w6 ⟨rfl, hb⟩
                replace BEL := Aside0.mk (BEL.out.next hb)
                replace XR := Aside0.mk (blk_below XR.out hb)
                replace XY := Aside0.mk (blk_below XY.out hb)
                replace XX := Aside0.mk (blk_below XX.out hb)
                replace PY := Aside0.mk (PY.out.below hb)
                replace PX := Aside0.mk (PX.out.below hb)
                clear hb
                obtain ⟨q15, q15'⟩ := box_cell XX.out 0 rfl
                obtain ⟨q16, q16'⟩ := box_cell XX.out 1 rfl
                obtain ⟨q17, q17'⟩ := box_cell XX.out 2 rfl
                go_wp2_with fail
                clear q15 q15' q16 q16' q17 q17'
                go_at_call 26
                refine (order_zero PX.out.c HZX.out).mono ?_
                rintro en7 w7 ⟨rfl, hb⟩
                replace BEL := Aside0.mk (BEL.out.next hb)
                replace XR := Aside0.mk (blk_below XR.out hb)
                replace XY := Aside0.mk (blk_below XY.out hb)
                replace XX := Aside0.mk (blk_below XX.out hb)
                replace PY := Aside0.mk (PY.out.below hb)
                replace PX := Aside0.mk (PX.out.below hb)
                clear hb
                go_wp2_with (((with_reducible refine gate_store (p := 6) rfl ?_); go_must (refine store_box 27 6 (.tmp 44) rfl rfl rfl (g := w.heap.size) (e := 27) (.agg #[.bool false, .slice none 0 0, .int .i64 0]) ([.bool false, .slice none 0 0, .int .i64 0]) rfl rfl rfl info_dyad ?b1 XR.out rfl ?_; (case b1 => intro q hq; simp at hq; rcases hq with rfl | rfl | rfl <;> rfl); intro wb hbx hgx; have HX := Aside0.mk hbx; have HG := Aside0.mk hgx; clear hbx hgx)); replace PY := Aside0.mk (PY.out.grown_box XR.out (by decide) HG.out); replace PX := Aside0.mk (PX.out.grown_box XR.out (by decide) HG.out); replace BEL := Aside0.mk (BEL.out.grown HG.out (by omega)); replace XY := Aside0.mk (blk_grown XY.out HG.out (Ne.symm NE_XR_XY.out)); replace XX := Aside0.mk (blk_grown XX.out HG.out (Ne.symm NE_XR_XX.out)); replace XR := HX; clear HG)
                refine bodyPost_ret (results_list (rs := [.cell 6 27, .tmp 7, .tmp 8]) rfl (by simp) (Vals.box any_dyad info_dyad (g := w.heap.size) rfl XR.out rfl (.tmp (.tmp .nil)))) rfl ?_
                rw [HEE.out, HOO.out]
                exact ⟨_, rfl, RDy.zero _ _ _, BEL.out.1⟩
              case neg =>
                have hs : decide (0 < sgnI q) = false := by rw [hsg.out]; exact decide_eq_false hq1
                have HOO : Aside0 (eo = none) := ⟨by rw [HO2.out]; unfold docF; rw [if_pos hf3, if_neg (fun h => hq1 h.2)]⟩
                clear hf3 hq1
                obtain ⟨q9, q9'⟩ := box_cell XY.out 0 rfl
                obtain ⟨q10, q10'⟩ := box_cell XY.out 1 rfl
                obtain ⟨q11, q11'⟩ := box_cell XY.out 2 rfl
                obtain ⟨q12, q12'⟩ := box_cell XX.out 0 rfl
                obtain ⟨q13, q13'⟩ := box_cell XX.out 1 rfl
                obtain ⟨q14, q14'⟩ := box_cell XX.out 2 rfl
                go_wp2_with fail
                clear q9 q9' q10 q10' q11 q11' q12 q12' q13 q13' q14 q14'
                go_at_call 12
                refine (zero_any _ p (-1074) _ PY.out.c HZY.out.len30).mono ?_
                rintro en6 w6 ⟨rfl, hb⟩
                replace BEL := Aside0.mk (BEL.out.next hb)
                replace XR := Aside0.mk (blk_below XR.out hb)
                replace XY := Aside0.mk (blk_below XY.out hb)
                replace XX := Aside0.mk (blk_below XX.out hb)
                replace PY := Aside0.mk (PY.out.below hb)
                replace PX := Aside0.mk (PX.out.below hb)
                clear hb
                obtain ⟨q15, q15'⟩ := box_cell XX.out 0 rfl
                obtain ⟨q16, q16'⟩ := box_cell XX.out 1 rfl
                obtain ⟨q17, q17'⟩ := box_cell XX.out 2 rfl
                go_wp2_with fail
                clear q15 q15' q16 q16' q17 q17'
                go_at_call 26
                refine (order_zero PX.out.c HZX.out).mono ?_
                rintro en7 w7 ⟨rfl, hb⟩
                replace BEL := Aside0.mk (BEL.out.next hb)
                replace XR := Aside0.mk (blk_below XR.out hb)
                replace XY := Aside0.mk (blk_below XY.out hb)
                replace XX := Aside0.mk (blk_below XX.out hb)
                replace PY := Aside0.mk (PY.out.below hb)
                replace PX := Aside0.mk (PX.out.below hb)
                clear hb
                go_wp2_with (((with_reducible refine gate_store (p := 6) rfl ?_); go_must (refine store_box 27 6 (.tmp 44) rfl rfl rfl (g := w.heap.size) (e := 27) (.agg #[.bool false, .slice none 0 0, .int .i64 0]) ([.bool false, .slice none 0 0, .int .i64 0]) rfl rfl rfl info_dyad ?b1 XR.out rfl ?_; (case b1 => intro q hq; simp at hq; rcases hq with rfl | rfl | rfl <;> rfl); intro wb hbx hgx; have HX := Aside0.mk hbx; have HG := Aside0.mk hgx; clear hbx hgx)); replace PY := Aside0.mk (PY.out.grown_box XR.out (by decide) HG.out); replace PX := Aside0.mk (PX.out.grown_box XR.out (by decide) HG.out); replace BEL := Aside0.mk (BEL.out.grown HG.out (by omega)); replace XY := Aside0.mk (blk_grown XY.out HG.out (Ne.symm NE_XR_XY.out)); replace XX := Aside0.mk (blk_grown XX.out HG.out (Ne.symm NE_XR_XX.out)); replace XR := HX; clear HG)
                refine bodyPost_ret (results_list (rs := [.cell 6 27, .tmp 7, .tmp 8]) rfl (by simp) (Vals.box any_dyad info_dyad (g := w.heap.size) rfl XR.out rfl (.tmp (.tmp .nil)))) rfl ?_
                rw [HEE.out, HOO.out]
                exact ⟨_, rfl, RDy.zero _ _ _, BEL.out.1⟩
            case neg =>
              have hff : ((f : Int) == 33) = false := by simp; omega
              by_cases hq1 : 0 < q
              case pos =>
                have hs : decide (0 < sgnI q) = true := by rw [hsg.out]; exact decide_eq_true hq1
                have HOO : Aside0 (eo = some (0, 0)) := ⟨by rw [HO2.out]; unfold docF; rw [if_neg hf3, if_pos ⟨HP0.out, hq1⟩]⟩
                clear hf3 hq1
                obtain ⟨q9, q9'⟩ := box_cell XY.out 0 rfl
                obtain ⟨q10, q10'⟩ := box_cell XY.out 1 rfl
                obtain ⟨q11, q11'⟩ := box_cell XY.out 2 rfl
                obtain ⟨q12, q12'⟩ := box_cell XX.out 0 rfl
                obtain ⟨q13, q13'⟩ := box_cell XX.out 1 rfl
                obtain ⟨q14, q14'⟩ := box_cell XX.out 2 rfl
                go_wp2_with fail
                clear q9 q9' q10 q10' q11 q11' q12 q12' q13 q13' q14 q14'
                go_at_call 12
                refine (zero_any _ p (-1074) _ PY.out.c HZY.out.len30).mono ?_
                rintro en6 w6 ⟨rfl, hb⟩
                replace BEL := Aside0.mk (BEL.out.next hb)
                replace XR := Aside0.mk (blk_below XR.out hb)
                replace XY := Aside0.mk (blk_below XY.out hb)
                replace XX := Aside0.mk (blk_below XX.out hb)
                replace PY := Aside0.mk (PY.out.below hb)
                replace PX := Aside0.mk (PX.out.below hb)
                clear hb
                obtain ⟨q15, q15'⟩ := box_cell XX.out 0 rfl
                obtain ⟨q16, q16'⟩ := box_cell XX.out 1 rfl
                obtain ⟨q17, q17'⟩ := box_cell XX.out 2 rfl
                go_wp2_with fail
                clear q15 q15' q16 q16' q17 q17'
                go_at_call 26
                refine (order_zero PX.out.c HZX.out).mono ?_
                rintro en7 w7 ⟨rfl, hb⟩
                replace BEL := Aside0.mk (BEL.out.next hb)
                replace XR := Aside0.mk (blk_below XR.out hb)
                replace XY := Aside0.mk (blk_below XY.out hb)
                replace XX := Aside0.mk (blk_below XX.out hb)
                replace PY := Aside0.mk (PY.out.below hb)
                replace PX := Aside0.mk (PX.out.below hb)
                clear hb
                go_wp2_with (((with_reducible refine gate_store (p := 6) rfl ?_); go_must (refine store_box 27 6 (.tmp 60) rfl rfl rfl (g := w.heap.size) (e := 27) (.agg #[.bool false, .slice none 0 0, .int .i64 0]) ([.bool false, .slice none 0 0, .int .i64 0]) rfl rfl rfl info_dyad ?b1 XR.out rfl ?_; (case b1 => intro q hq; simp at hq; rcases hq with rfl | rfl | rfl <;> rfl); intro wb hbx hgx; have HX := Aside0.mk hbx; have HG := Aside0.mk hgx; clear hbx hgx)); replace PY := Aside0.mk (PY.out.grown_box XR.out (by decide) HG.out); replace PX := Aside0.mk (PX.out.grown_box XR.out (by decide) HG.out); replace BEL := Aside0.mk (BEL.out.grown HG.out (by omega)); replace XY := Aside0.mk (blk_grown XY.out HG.out (Ne.symm NE_XR_XY.out)); replace XX := Aside0.mk (blk_grown XX.out HG.out (Ne.symm NE_XR_XX.out)); replace XR := HX; clear HG)
                refine bodyPost_ret (results_list (rs := [.cell 6 27, .tmp 7, .tmp 8]) rfl (by simp) (Vals.box any_dyad info_dyad (g := w.heap.size) rfl XR.out rfl (.tmp (.tmp .nil)))) rfl ?_
                rw [HEE.out, HOO.out]
                exact ⟨_, rfl, RDy.zero _ _ _, BEL.out.1⟩
              case neg =>
                have hs : decide (0 < sgnI q) = false := by rw [hsg.out]; exact decide_eq_false hq1
                have HOO : Aside0 (eo = some (1, 0)) := ⟨by rw [HO2.out]; unfold docF; rw [if_neg hf3, if_neg (fun h => hq1 h.2), if_pos HP0.out]⟩
                clear hf3 hq1
                obtain ⟨q9, q9'⟩ := box_cell XY.out 0 rfl
                obtain ⟨q10, q10'⟩ := box_cell XY.out 1 rfl
                obtain ⟨q11, q11'⟩ := box_cell XY.out 2 rfl
                obtain ⟨q12, q12'⟩ := box_cell XX.out 0 rfl
                obtain ⟨q13, q13'⟩ := box_cell XX.out 1 rfl
                obtain ⟨q14, q14'⟩ := box_cell XX.out 2 rfl
                go_wp2_with fail
                clear q9 q9' q10 q10' q11 q11' q12 q12' q13 q13' q14 q14'
                go_at_call 12
                refine (zero_any _ p (-1074) _ PY.out.c HZY.out.len30).mono ?_
                rintro en6 w6 ⟨rfl, hb⟩
                replace BEL := Aside0.mk (BEL.out.next hb)
                replace XR := Aside0.mk (blk_below XR.out hb)
                replace XY := Aside0.mk (blk_below XY.out hb)
                replace XX := Aside0.mk (blk_below XX.out hb)
                replace PY := Aside0.mk (PY.out.below hb)
                replace PX := Aside0.mk (PX.out.below hb)
                clear hb
                obtain ⟨q15, q15'⟩ := box_cell XX.out 0 rfl
                obtain ⟨q16, q16'⟩ := box_cell XX.out 1 rfl
                obtain ⟨q17, q17'⟩ := box_cell XX.out 2 rfl
                go_wp2_with fail
                clear q15 q15' q16 q16' q17 q17'
                go_at_call 26
                refine (order_zero PX.out.c HZX.out).mono ?_
                rintro en7 w7 ⟨rfl, hb⟩
                replace BEL := Aside0.mk (BEL.out.next hb)
                replace XR := Aside0.mk (blk_below XR.out hb)
                replace XY := Aside0.mk (blk_below XY.out hb)
                replace XX := Aside0.mk (blk_below XX.out hb)
                replace PY := Aside0.mk (PY.out.below hb)
                replace PX := Aside0.mk (PX.out.below hb)
                clear hb
                obtain ⟨q18, q18'⟩ := box_cell XY.out 0 rfl
                obtain ⟨q19, q19'⟩ := box_cell XY.out 1 rfl
                obtain ⟨q20, q20'⟩ := box_cell XY.out 2 rfl
                go_wp2_with fail
                clear q18 q18' q19 q19' q20 q20'
                go_at_call 12
                refine (zero_any _ p (-1074) _ PY.out.c HZY.out.len30).mono ?_
                rintro en8 w8 ⟨rfl, hb⟩
                replace BEL := Aside0.mk (BEL.out.next hb)
                replace XR := Aside0.mk (blk_below XR.out hb)
                replace XY := Aside0.mk (blk_below XY.out hb)
                replace XX := Aside0.mk (blk_below XX.out hb)
                replace PY := Aside0.mk (PY.out.below hb)
                replace PX := Aside0.mk (PX.out.below hb)
                clear hb
                go_wp2_with fail
                have BLI := BEL
                go_at_call 14
                refine (dint_any 1 _ (by decide) (by decide)).mono ?_
                rintro en9 w9 ⟨v9, rfl, hr, hb⟩
                replace BEL := Aside0.mk (BEL.out.next hb)
                replace XR := Aside0.mk (blk_below XR.out hb)
                replace XY := Aside0.mk (blk_below XY.out hb)
                replace XX := Aside0.mk (blk_below XX.out hb)
                replace PY := Aside0.mk (PY.out.below hb)
                replace PX := Aside0.mk (PX.out.below hb)
                have PI := Aside0.mk hr
                obtain ⟨b9, A9, n9, c9, x9, rfl⟩ := hr.ex
                clear hr hb
                go_wp2_with (((with_reducible refine gate_store (p := 6) rfl ?_); go_must (refine store_box 27 6 (.tmp 64) rfl rfl rfl (g := w.heap.size) (e := 27) (.agg #[.bool b9, .slice A9 n9 c9, .int .i64 x9]) ([.bool b9, .slice A9 n9 c9, .int .i64 x9]) rfl rfl rfl info_dyad ?b1 XR.out rfl ?_; (case b1 => intro q hq; simp at hq; rcases hq with rfl | rfl | rfl <;> rfl); intro wb hbx hgx; have HX := Aside0.mk hbx; have HG := Aside0.mk hgx; clear hbx hgx)); replace PY := Aside0.mk (PY.out.grown_box XR.out (by decide) HG.out); replace PX := Aside0.mk (PX.out.grown_box XR.out (by decide) HG.out); replace PI := Aside0.mk (PI.out.grown_box XR.out (by decide) HG.out); replace BEL := Aside0.mk (BEL.out.grown HG.out (by omega)); replace XY := Aside0.mk (blk_grown XY.out HG.out (Ne.symm NE_XR_XY.out)); replace XX := Aside0.mk (blk_grown XX.out HG.out (Ne.symm NE_XR_XX.out)); replace XR := HX; clear HG)
                refine bodyPost_ret (results_list (rs := [.cell 6 27, .tmp 7, .tmp 8]) rfl (by simp) (Vals.box any_dyad info_dyad (g := w.heap.size) rfl XR.out rfl (.tmp (.tmp .nil)))) rfl ?_
                rw [HEE.out, HOO.out]
                exact ⟨_, rfl, PI.out.lower BLI.out.1.size, BEL.out.1⟩
        case neg =>
          have hd : decide (p = 0) = false := decide_eq_false hp
          have HEE : Aside0 (ee = 0) := ⟨by rw [HE.out, hd]; rfl⟩
          have HO2 := Aside0.mk (show eo = docF f p q (decide ((p.natAbs : Int) = q.natAbs)) from by rw [HO.out, if_pos (by rw [hd]; simp)])
          have HP0 := Aside0.mk hp
          have hsg := Aside0.mk (sgn_pos q)
          clear hp
          by_cases hf3 : f = 33
          case pos =>
            have hff : ((f : Int) == 33) = true := by simp; omega
            have HOO : Aside0 (eo = none) := ⟨by rw [HO2.out]; unfold docF; rw [if_pos hf3, if_neg (fun h => HP0.out h.1)]⟩
            clear hf3
            obtain ⟨q6, q6'⟩ := box_cell XY.out 0 rfl
            obtain ⟨q7, q7'⟩ := box_cell XY.out 1 rfl
            obtain ⟨q8, q8'⟩ := box_cell XY.out 2 rfl
            go_wp2_with fail
            clear q6 q6' q7 q7' q8 q8'
            go_at_call 12
            refine (zero_any _ p (-1074) _ PY.out.c HZY.out.len30).mono ?_
            rintro en5 w5 ⟨rfl, hb⟩
            replace BEL := Aside0.mk (BEL.out.next hb)
            replace XR := Aside0.mk (blk_below XR.out hb)
            replace XY := Aside0.mk (blk_below XY.out hb)
            replace XX := Aside0.mk (blk_below XX.out hb)
            replace PY := Aside0.mk (PY.out.below hb)
            replace PX := Aside0.mk (PX.out.below hb)
            clear hb
            go_wp2_with (((with_reducible refine gate_store (p := 6) rfl ?_); go_must (refine store_box 27 6 (.tmp 44) rfl rfl rfl (g := w.heap.size) (e := 27) (.agg #[.bool false, .slice none 0 0, .int .i64 0]) ([.bool false, .slice none 0 0, .int .i64 0]) rfl rfl rfl info_dyad ?b1 XR.out rfl ?_; (case b1 => intro q hq; simp at hq; rcases hq with rfl | rfl | rfl <;> rfl); intro wb hbx hgx; have HX := Aside0.mk hbx; have HG := Aside0.mk hgx; clear hbx hgx)); replace PY := Aside0.mk (PY.out.grown_box XR.out (by decide) HG.out); replace PX := Aside0.mk (PX.out.grown_box XR.out (by decide) HG.out); replace BEL := Aside0.mk (BEL.out.grown HG.out (by omega)); replace XY := Aside0.mk (blk_grown XY.out HG.out (Ne.symm NE_XR_XY.out)); replace XX := Aside0.mk (blk_grown XX.out HG.out (Ne.symm NE_XR_XX.out)); replace XR := HX; clear HG)
            refine bodyPost_ret (results_list (rs := [.cell 6 27, .tmp 7, .tmp 8]) rfl (by simp) (Vals.box any_dyad info_dyad (g := w.heap.size) rfl XR.out rfl (.tmp (.tmp .nil)))) rfl ?_
            rw [HEE.out, HOO.out]
            exact ⟨_, rfl, RDy.zero _ _ _, BEL.out.1⟩
          case neg =>
            have hff : ((f : Int) == 33) = false := by simp; omega
            have HO3 := Aside0.mk (show eo = (if q = 0 then some (sgn (cneg p) 1, -1) else if (decide ((p.natAbs : Int) = q.natAbs)) = false then none else if 0 < q then some (sgn (cneg p) 1, -2) else some (sgn (cneg p) 3, -2)) from by rw [HO2.out]; unfold docF; rw [if_neg hf3, if_neg (fun h => HP0.out h.1), if_neg HP0.out])
            clear hf3
            obtain ⟨q6, q6'⟩ := box_cell XY.out 0 rfl
            obtain ⟨q7, q7'⟩ := box_cell XY.out 1 rfl
            obtain ⟨q8, q8'⟩ := box_cell XY.out 2 rfl
            go_wp2_with fail
            clear q6 q6' q7 q7' q8 q8'
            go_at_call 12
            refine (zero_any _ p (-1074) _ PY.out.c HZY.out.len30).mono ?_
            rintro en5 w5 ⟨rfl, hb⟩
            replace BEL := Aside0.mk (BEL.out.next hb)
            replace XR := Aside0.mk (blk_below XR.out hb)
            replace XY := Aside0.mk (blk_below XY.out hb)
            replace XX := Aside0.mk (blk_below XX.out hb)
            replace PY := Aside0.mk (PY.out.below hb)
            replace PX := Aside0.mk (PX.out.below hb)
            clear hb
            obtain ⟨q9, q9'⟩ := box_cell XY.out 0 rfl
            obtain ⟨q10, q10'⟩ := box_cell XY.out 1 rfl
            obtain ⟨q11, q11'⟩ := box_cell XY.out 2 rfl
            go_wp2_with fail
            clear q9 q9' q10 q10' q11 q11'
            go_at_call 12
            refine (zero_any _ p (-1074) _ PY.out.c HZY.out.len30).mono ?_
            rintro en6 w6 ⟨rfl, hb⟩
            replace BEL := Aside0.mk (BEL.out.next hb)
            replace XR := Aside0.mk (blk_below XR.out hb)
            replace XY := Aside0.mk (blk_below XY.out hb)
            replace XX := Aside0.mk (blk_below XX.out hb)
            replace PY := Aside0.mk (PY.out.below hb)
            replace PX := Aside0.mk (PX.out.below hb)
            clear hb
            obtain ⟨q12, q12'⟩ := box_cell XX.out 0 rfl
            obtain ⟨q13, q13'⟩ := box_cell XX.out 1 rfl
            obtain ⟨q14, q14'⟩ := box_cell XX.out 2 rfl
            go_wp2_with fail
            clear q12 q12' q13 q13' q14 q14'
            go_at_call 12
            refine (zero_any _ q (-1074) _ PX.out.c HZX.out.len30).mono ?_
            rintro en7 w7 ⟨rfl, hb⟩
            replace BEL := Aside0.mk (BEL.out.next hb)
            replace XR := Aside0.mk (blk_below XR.out hb)
            replace XY := Aside0.mk (blk_below XY.out hb)
            replace XX := Aside0.mk (blk_below XX.out hb)
            replace PY := Aside0.mk (PY.out.below hb)
            replace PX := Aside0.mk (PX.out.below hb)
            clear hb
            by_cases hq : q = 0
            case pos =>
              have hdq : decide (q = 0) = true := decide_eq_true hq
              have HOO : Aside0 (eo = some (sgn (cneg p) 1, -1)) := ⟨by rw [HO3.out, if_pos hq]⟩
              clear hq
              have PL := Aside0.mk (RDy.lit (e := (-1)) (row_one w7 1) (.inl rfl) (CDy.parts PY.out.c).1)
              replace PL := Aside0.mk (PL.out.lower BEL.out.1.size)
              replace BEL := Aside0.mk (BEL.out.next (below_alloc (Below.refl w7.heap.size w7) (.cells #[.int .u64 1] 23)))
              obtain ⟨z0, z0'⟩ := box_cell XY.out 0 rfl
              replace XR := Aside0.mk (blk_below XR.out (below_alloc (Below.refl w7.heap.size w7) (.cells #[.int .u64 1] 23)))
              go_wp2_with (((with_reducible refine gate_store (p := 6) rfl ?_); go_must (refine store_box 27 6 (.tmp 71) rfl rfl rfl (g := w.heap.size) (e := 27) (.agg #[.bool b2, .slice (some ⟨w7.heap.size, 0, none⟩) 1 1, .int .i64 (-1)]) ([.bool b2, .slice (some ⟨w7.heap.size, 0, none⟩) 1 1, .int .i64 (-1)]) rfl rfl rfl info_dyad ?b1 XR.out rfl ?_; (case b1 => intro q hq; simp at hq; rcases hq with rfl | rfl | rfl <;> rfl); intro wb hbx hgx; have HX := Aside0.mk hbx; have HG := Aside0.mk hgx; clear hbx hgx)); replace PL := Aside0.mk (PL.out.grown_box XR.out (by decide) HG.out); replace BEL := Aside0.mk (BEL.out.grown HG.out (by omega)); replace XR := HX; clear HG)
              refine bodyPost_ret (results_list (rs := [.cell 6 27, .tmp 7, .tmp 8]) rfl (by simp) (Vals.box any_dyad info_dyad (g := w.heap.size) rfl XR.out rfl (.tmp (.tmp .nil)))) rfl ?_
              rw [HEE.out, HOO.out]
              exact ⟨_, rfl, PL.out, BEL.out.1⟩
            case neg =>
              have hdq : decide (q = 0) = false := decide_eq_false hq
              have HQ0 := Aside0.mk hq
              clear hq
              go_wp2_with fail
              go_at_call 27
              refine (dabs_any x _).mono ?_
              rintro en8 w8 ⟨rfl, hb⟩
              replace BEL := Aside0.mk (BEL.out.next hb)
              replace XR := Aside0.mk (blk_below XR.out hb)
              replace XY := Aside0.mk (blk_below XY.out hb)
              replace XX := Aside0.mk (blk_below XX.out hb)
              replace PY := Aside0.mk (PY.out.below hb)
              replace PX := Aside0.mk (PX.out.below hb)
              clear hb
              go_wp2_with fail
              go_at_call 27
              refine (dabs_any y _).mono ?_
              rintro en9 w9 ⟨rfl, hb⟩
              replace BEL := Aside0.mk (BEL.out.next hb)
              replace XR := Aside0.mk (blk_below XR.out hb)
              replace XY := Aside0.mk (blk_below XY.out hb)
              replace XX := Aside0.mk (blk_below XX.out hb)
              replace PY := Aside0.mk (PY.out.below hb)
              replace PX := Aside0.mk (PX.out.below hb)
              clear hb
              by_cases ha : x % 9223372036854775808 = y % 9223372036854775808
              case neg =>
                have hab : (((x % 9223372036854775808 : Nat) : Int) != ((y % 9223372036854775808 : Nat) : Int)) = true := by simp; omega
                have HOO : Aside0 (eo = none) := ⟨by rw [HO3.out, if_neg HQ0.out, if_pos (decide_eq_false (fun h => ha (HAA.out.1 h)))]⟩
                clear ha
                go_wp2_with (((with_reducible refine gate_store (p := 6) rfl ?_); go_must (refine store_box 27 6 (.tmp 78) rfl rfl rfl (g := w.heap.size) (e := 27) (.agg #[.bool false, .slice none 0 0, .int .i64 0]) ([.bool false, .slice none 0 0, .int .i64 0]) rfl rfl rfl info_dyad ?b1 XR.out rfl ?_; (case b1 => intro q hq; simp at hq; rcases hq with rfl | rfl | rfl <;> rfl); intro wb hbx hgx; have HX := Aside0.mk hbx; have HG := Aside0.mk hgx; clear hbx hgx)); replace PY := Aside0.mk (PY.out.grown_box XR.out (by decide) HG.out); replace PX := Aside0.mk (PX.out.grown_box XR.out (by decide) HG.out); replace BEL := Aside0.mk (BEL.out.grown HG.out (by omega)); replace XY := Aside0.mk (blk_grown XY.out HG.out (Ne.symm NE_XR_XY.out)); replace XX := Aside0.mk (blk_grown XX.out HG.out (Ne.symm NE_XR_XX.out)); replace XR := HX; clear HG)
                refine bodyPost_ret (results_list (rs := [.cell 6 27, .tmp 7, .tmp 8]) rfl (by simp) (Vals.box any_dyad info_dyad (g := w.heap.size) rfl XR.out rfl (.tmp (.tmp .nil)))) rfl ?_
                rw [HEE.out, HOO.out]
                exact ⟨_, rfl, RDy.zero _ _ _, BEL.out.1⟩
              case pos =>
                have hab : (((x % 9223372036854775808 : Nat) : Int) != ((y % 9223372036854775808 : Nat) : Int)) = false := by simp; omega
                have hz := HAA.out.2 ha
                have HO4 := Aside0.mk (show eo = (if 0 < q then some (sgn (cneg p) 1, -2) else some (sgn (cneg p) 3, -2)) from by rw [HO3.out, if_neg HQ0.out, if_neg (by rw [decide_eq_true hz]; decide)])
                clear ha hz
                obtain ⟨q15, q15'⟩ := box_cell XX.out 0 rfl
                obtain ⟨q16, q16'⟩ := box_cell XX.out 1 rfl
                obtain ⟨q17, q17'⟩ := box_cell XX.out 2 rfl
                go_wp2_with fail
                clear q15 q15' q16 q16' q17 q17'
                go_at_call 26
                refine (order_zero PX.out.c HZX.out).mono ?_
                rintro en10 w10 ⟨rfl, hb⟩
                replace BEL := Aside0.mk (BEL.out.next hb)
                replace XR := Aside0.mk (blk_below XR.out hb)
                replace XY := Aside0.mk (blk_below XY.out hb)
                replace XX := Aside0.mk (blk_below XX.out hb)
                replace PY := Aside0.mk (PY.out.below hb)
                replace PX := Aside0.mk (PX.out.below hb)
                clear hb
                by_cases hq1 : 0 < q
                case pos =>
                  have hs : decide (0 < sgnI q) = true := by rw [hsg.out]; exact decide_eq_true hq1
                  have HOO : Aside0 (eo = some (sgn (cneg p) 1, -2)) := ⟨by rw [HO4.out, if_pos hq1]⟩
                  clear hq1
                  have PL := Aside0.mk (RDy.lit (e := (-2)) (row_one w10 1) (.inl rfl) (CDy.parts PY.out.c).1)
                  replace PL := Aside0.mk (PL.out.lower BEL.out.1.size)
                  replace BEL := Aside0.mk (BEL.out.next (below_alloc (Below.refl w10.heap.size w10) (.cells #[.int .u64 1] 23)))
                  obtain ⟨z0, z0'⟩ := box_cell XY.out 0 rfl
                  replace XR := Aside0.mk (blk_below XR.out (below_alloc (Below.refl w10.heap.size w10) (.cells #[.int .u64 1] 23)))
                  go_wp2_with (((with_reducible refine gate_store (p := 6) rfl ?_); go_must (refine store_box 27 6 (.tmp 86) rfl rfl rfl (g := w.heap.size) (e := 27) (.agg #[.bool b2, .slice (some ⟨w10.heap.size, 0, none⟩) 1 1, .int .i64 (-2)]) ([.bool b2, .slice (some ⟨w10.heap.size, 0, none⟩) 1 1, .int .i64 (-2)]) rfl rfl rfl info_dyad ?b1 XR.out rfl ?_; (case b1 => intro q hq; simp at hq; rcases hq with rfl | rfl | rfl <;> rfl); intro wb hbx hgx; have HX := Aside0.mk hbx; have HG := Aside0.mk hgx; clear hbx hgx)); replace PL := Aside0.mk (PL.out.grown_box XR.out (by decide) HG.out); replace BEL := Aside0.mk (BEL.out.grown HG.out (by omega)); replace XR := HX; clear HG)
                  refine bodyPost_ret (results_list (rs := [.cell 6 27, .tmp 7, .tmp 8]) rfl (by simp) (Vals.box any_dyad info_dyad (g := w.heap.size) rfl XR.out rfl (.tmp (.tmp .nil)))) rfl ?_
                  rw [HEE.out, HOO.out]
                  exact ⟨_, rfl, PL.out, BEL.out.1⟩
                case neg =>
                  have hs : decide (0 < sgnI q) = false := by rw [hsg.out]; exact decide_eq_false hq1
                  have HOO : Aside0 (eo = some (sgn (cneg p) 3, -2)) := ⟨by rw [HO4.out, if_neg hq1]⟩
                  clear hq1
                  have PL := Aside0.mk (RDy.lit (e := (-2)) (row_one w10 3) (.inr rfl) (CDy.parts PY.out.c).1)
                  replace PL := Aside0.mk (PL.out.lower BEL.out.1.size)
                  replace BEL := Aside0.mk (BEL.out.next (below_alloc (Below.refl w10.heap.size w10) (.cells #[.int .u64 3] 23)))
                  obtain ⟨z0, z0'⟩ := box_cell XY.out 0 rfl
                  replace XR := Aside0.mk (blk_below XR.out (below_alloc (Below.refl w10.heap.size w10) (.cells #[.int .u64 3] 23)))
                  go_wp2_with (((with_reducible refine gate_store (p := 6) rfl ?_); go_must (refine store_box 27 6 (.tmp 90) rfl rfl rfl (g := w.heap.size) (e := 27) (.agg #[.bool b2, .slice (some ⟨w10.heap.size, 0, none⟩) 1 1, .int .i64 (-2)]) ([.bool b2, .slice (some ⟨w10.heap.size, 0, none⟩) 1 1, .int .i64 (-2)]) rfl rfl rfl info_dyad ?b1 XR.out rfl ?_; (case b1 => intro q hq; simp at hq; rcases hq with rfl | rfl | rfl <;> rfl); intro wb hbx hgx; have HX := Aside0.mk hbx; have HG := Aside0.mk hgx; clear hbx hgx)); replace PL := Aside0.mk (PL.out.grown_box XR.out (by decide) HG.out); replace BEL := Aside0.mk (BEL.out.grown HG.out (by omega)); replace XR := HX; clear HG)
                  refine bodyPost_ret (results_list (rs := [.cell 6 27, .tmp 7, .tmp 8]) rfl (by simp) (Vals.box any_dyad info_dyad (g := w.heap.size) rfl XR.out rfl (.tmp (.tmp .nil)))) rfl ?_
                  rw [HEE.out, HOO.out]
                  exact ⟨_, rfl, PL.out, BEL.out.1⟩

set_option maxRecDepth 100000 in
set_option maxHeartbeats 8000000 in
theorem points_any (f y x : Nat) (hf : f < 256) (hy : y < 18446744073709551616) (hx : x < 18446744073709551616) (w : World) (hT : TabAt 0 Lib.deBruijn64tab w) :
    Calls Tryd.prog 3 #[.int .u8 f, .int .u64 (y : Int), .int .u64 (x : Int)] w fun en w' => en = .returned (.bool true) ∧ Below w.heap.size w w' := by
  have HT := Aside0.mk hT
  have BEL := Aside0.mk (BelN.zero w)
  have Q1 := Aside0.mk (fun (W : World) (ht : TabAt 0 Lib.deBruijn64tab W) => exact2_any f y x hf hy hx W ht)
  have Q2 := Aside0.mk (fun (W : World) (ht : TabAt 0 Lib.deBruijn64tab W) => dexact2_any f y x hf hy hx W ht)
  have OK1 := Aside0.mk (ex2_ok f y x)
  clear hT hf hy hx
  generalize ((exO2 f y x).getD (0, 0)).1 = va at *
  generalize ((exO2 f y x).getD (0, 0)).2 = ea at *
  generalize (exO2 f y x).isSome = sa at *
  generalize exE2 f y x = ra at *
  go_enter Tryd.func3, Tryd.ntmps3
  go_wp2_with fail
  go_at_call 7
  refine (Q1.out _ (tab_below HT.out BEL.out.1)).mono ?_
  rintro en1 w1 ⟨v1, rfl, hr, hb⟩
  replace BEL := Aside0.mk (BEL.out.next hb)
  have P1 := Aside0.mk hr
  obtain ⟨b1, A1, n1, c1, x1, rfl⟩ := hr.ex
  clear hr hb
  have BELo := BEL
  go_wp2_with (replace BEL := Aside0.mk ((BEL.out.alloc (.cells #[.bool false, .slice none 0 0, .int .i64 0] 27)).less (j := 0) (by omega)); have HN := Aside0.mk (blk_new w1 (.cells #[.bool false, .slice none 0 0, .int .i64 0] 27)); replace P1 := Aside0.mk (P1.out.below (below_alloc (Below.refl _ _) (.cells #[.bool false, .slice none 0 0, .int .i64 0] 27))); ((with_reducible refine gate_store (p := 7) rfl ?_); go_must (refine store_box 27 7 (.tmp 18) rfl rfl rfl (g := w1.heap.size) (e := 27) (.agg #[.bool b1, .slice A1 n1 c1, .int .i64 x1]) ([.bool b1, .slice A1 n1 c1, .int .i64 x1]) rfl rfl rfl info_dyad ?b1 HN.out rfl ?_; (case b1 => intro q hq; simp at hq; rcases hq with rfl | rfl | rfl <;> rfl); intro wb hbx hgx; have HX := Aside0.mk hbx; have HG := Aside0.mk hgx; clear hbx hgx)); replace P1 := Aside0.mk (P1.out.grown_box HN.out (by decide) HG.out); have LB_X1 := BELo.out.2; replace BEL := Aside0.mk (BEL.out.grown HG.out (Nat.le_trans (Nat.le_add_right _ _) LB_X1)); have LL_X1 := Aside0.mk LB_X1; clear LB_X1; have X1 := HX; clear HG HN HX)
  go_at_call 8
  refine (Q2.out _ (tab_below HT.out BEL.out.1)).mono ?_
  rintro en2 w2 ⟨v2, rfl, hr, hb⟩
  replace BEL := Aside0.mk (BEL.out.next hb)
  replace X1 := Aside0.mk (blk_below X1.out hb)
  replace P1 := Aside0.mk (P1.out.below hb)
  have C2 := Aside0.mk hr
  obtain ⟨b2, A2, n2, c2, x2, rfl⟩ := hr.ex
  clear hr hb
  have BELo := BEL
  go_wp2_with (replace BEL := Aside0.mk ((BEL.out.alloc (.cells #[.bool false, .slice none 0 0, .int .i64 0] 27)).less (j := 0) (by omega)); have HN := Aside0.mk (blk_new w2 (.cells #[.bool false, .slice none 0 0, .int .i64 0] 27)); have L_X1 := lt_blk X1.out; replace X1 := Aside0.mk (blk_alloc X1.out (.cells #[.bool false, .slice none 0 0, .int .i64 0] 27)); replace P1 := Aside0.mk (P1.out.below (below_alloc (Below.refl _ _) (.cells #[.bool false, .slice none 0 0, .int .i64 0] 27))); replace C2 := Aside0.mk (C2.out.below (below_alloc (Below.refl _ _) (.cells #[.bool false, .slice none 0 0, .int .i64 0] 27))); ((with_reducible refine gate_store (p := 10) rfl ?_); go_must (refine store_box 27 10 (.tmp 26) rfl rfl rfl (g := w2.heap.size) (e := 27) (.agg #[.bool b2, .slice A2 n2 c2, .int .i64 x2]) ([.bool b2, .slice A2 n2 c2, .int .i64 x2]) rfl rfl rfl info_dyad ?b1 HN.out rfl ?_; (case b1 => intro q hq; simp at hq; rcases hq with rfl | rfl | rfl <;> rfl); intro wb hbx hgx; have HX := Aside0.mk hbx; have HG := Aside0.mk hgx; clear hbx hgx)); replace P1 := Aside0.mk (P1.out.grown_box HN.out (by decide) HG.out); replace C2 := Aside0.mk (C2.out.grown_box HN.out (by decide) HG.out); have LB_X2 := BELo.out.2; replace BEL := Aside0.mk (BEL.out.grown HG.out (Nat.le_trans (Nat.le_add_right _ _) LB_X2)); replace X1 := Aside0.mk (blk_grown X1.out HG.out (Nat.ne_of_lt L_X1)); have NE_X1_X2 := Aside0.mk (Nat.ne_of_lt L_X1); clear L_X1; have LL_X2 := Aside0.mk LB_X2; clear LB_X2; have X2 := HX; clear HG HN HX)
  go_at_call 9
  refine (lives_any _ (tab_below HT.out BEL.out.1)).mono ?_
  rintro en3 w3 ⟨rfl, hb⟩
  replace BEL := Aside0.mk (BEL.out.next hb)
  replace X1 := Aside0.mk (blk_below X1.out hb)
  replace X2 := Aside0.mk (blk_below X2.out hb)
  replace P1 := Aside0.mk (P1.out.below hb)
  replace C2 := Aside0.mk (C2.out.below hb)
  clear hb
  obtain ⟨q0, q0'⟩ := box_cell X1.out 0 rfl
  obtain ⟨q1, q1'⟩ := box_cell X1.out 1 rfl
  obtain ⟨q2, q2'⟩ := box_cell X1.out 2 rfl
  obtain ⟨q3, q3'⟩ := box_cell X2.out 0 rfl
  obtain ⟨q4, q4'⟩ := box_cell X2.out 1 rfl
  obtain ⟨q5, q5'⟩ := box_cell X2.out 2 rfl
  go_wp2_with fail
  clear q0 q0' q1 q1' q2 q2' q3 q3' q4 q4' q5 q5'
  go_at_call 10
  refine (same_self P1.out.c C2.out.c OK1.out).mono ?_
  rintro en4 w4 ⟨rfl, hb⟩
  replace BEL := Aside0.mk (BEL.out.next hb)
  replace X1 := Aside0.mk (blk_below X1.out hb)
  replace X2 := Aside0.mk (blk_below X2.out hb)
  replace P1 := Aside0.mk (P1.out.below hb)
  replace C2 := Aside0.mk (C2.out.below hb)
  clear hb
  go_wp2_with fail
  go_ret
  exact ⟨rfl, BEL.out.1⟩
end Go.Proofs.YtgpjplelgffocaaDoor

namespace Go.Proofs.YtgpjplelgffocaaDoor.exactPoints
open Go.ChangeShapes Go.WideShapes Go.ChangeAt Go.RowKit Go.WideMaps Go.WideElems
set_option linter.unusedVariables false

theorem own : ownKnob Tryd.prog.godebug = none := by kernel_rfl
theorem gTab : Tryd.prog.globalNamed "math/bits.deBruijn64tab" = some 0 := by kernel_rfl
theorem tTab : (Tryd.prog.globals[0]?).map (·.type) = some 113 := by kernel_rfl
theorem uTab : Tryd.prog.underlying 113 = some (.array 64 5) := by kernel_rfl
theorem laid_list : Rows.laid_math_bits_deBruijn64tab (H := Unit) = .agg (Lib.deBruijn64tab.map (fun n : Nat => .lit (.int .u8 (n : Int)))) := rfl

theorem door_met (os : Os) (args : Array Value) : laidMetH Tryd.prog Rows.exactPointsRow.laid ((World.doorLaid Tryd.prog 400 os).forCall (fun _ _ => 0) ⟨#[], args, []⟩).memory :=
  laidMetH_of_parts3 (fuel := 8) (laidMet_of_run' 8 (by kernel_rfl) (by kernel_rfl)) (by kernel_rfl) (by kernel_rfl)

set_option maxRecDepth 100000 in
/-- What the condition gives the walk: the table's cells. -/
theorem of_laid {W : World} (h : laidMetH Tryd.prog Rows.exactPointsRow.laid W) : TabAt 0 Lib.deBruijn64tab W := by
  rw [MakeChecks.laidMetH_plain _ _ _ (by kernel_rfl)] at h
  obtain ⟨ps, ⟨g0, t0, cs0, f0, p0, q0, hg0, ht0, hv0, hd0, _, _⟩, _⟩ := h
  obtain rfl := Option.some.inj (gTab.symm.trans hg0)
  obtain rfl := Option.some.inj (tTab.symm.trans ht0)
  obtain ⟨xs, m1, rfl, hx1, hlen, hn, hel⟩ := DataW.trod_array uTab hd0
  have c1 : Tryd.prog.cellsOf 5 = 1 := by kernel_rfl
  rw [c1] at hel
  simp only [Prod.mk.injEq] at hx1
  have hx2 := laid_list.symm.trans hx1.1
  injection hx2 with hx3
  intro j hj
  have hj64 : j < 64 := hj
  have h1 := hel j hj64
  have hxj : xs[j]? = some xs[j] := List.getElem?_eq_getElem (by omega)
  rw [hxj] at h1
  obtain ⟨k, e1, e2, _⟩ := DataW.trod_int Tryd.underlying5 h1
  have h2 : (Lib.deBruijn64tab.map (fun n : Nat => (DataW.lit (H := Unit) (.int .u8 (n : Int)))))[j]? = some (.lit (.int .u8 k)) := by
    rw [hx3, List.getElem?_map, hxj, Option.map_some, e2]
  obtain ⟨y, hy⟩ : ∃ y, Lib.deBruijn64tab[j]? = some y := ⟨_, List.getElem?_eq_getElem hj⟩
  rw [List.getElem?_map, hy, Option.map_some] at h2
  have h2 : (y : Int) = k := by simpa only [Option.some.injEq, DataW.lit.injEq, Lit.int.injEq, true_and] using h2
  rw [World.var?_cell hg0 hv0 j]
  have h3 : cs0.toList[j]? = some (.int .u8 k) := by
    rw [Nat.mul_one] at e1
    have h4 : (cs0.toList.drop j)[0]? = some (.int .u8 k) := by
      have h5 : ((cs0.toList.drop j).take 1)[0]? = some (.int .u8 k) := by rw [e1]; rfl
      rw [List.getElem?_take_of_lt (by decide)] at h5
      exact h5
    rw [List.getElem?_drop] at h4
    exact h4
  rw [← Array.getElem?_toList, h3, ← h2, List.getD_eq_getElem?_getD, hy]
  rfl

set_option maxRecDepth 100000 in
theorem lifted (os : Os) (started : os.Started) (H : Type) (enc : TypeId × Value → H) :
    ReturnsInHanded {} Tryd.checked os 3 .any (fun w args => (Rows.exactPointsSpec.pre enc Tryd.prog Tryd.f3 [] false w args ∧ laidMetH Tryd.prog Rows.exactPointsRow.laid w) ∧ sizedMet enc Tryd.prog Tryd.f3 (OpenSpec.ofChange Rows.exactPointsSpec) false w args)
      (Rows.exactPointsSpec.post enc Tryd.prog Tryd.f3 false true false false) := by
  refine returnsInHanded_of_change_and (C := Tryd.checked) (X := fun w _ => laidMetH Tryd.prog Rows.exactPointsRow.laid w) (fun _ _ _ hh h => h.of_heap hh) own started (by kernel_rfl) Tryd.func3
    (ChangeSpec.witness_shaped (enc := enc) (C := Tryd.checked) (os := os) (X := fun w _ => laidMetH Tryd.prog Rows.exactPointsRow.laid w) false (World.doorLaid Tryd.prog 400 os) #[.int .u8 0, .int .u64 0, .int .u64 0] 8 rfl (World.shaped_of_RefB (by kernel_rfl) (by kernel_rfl)) (by kernel_rfl) (by kernel_rfl) (by kernel_rfl) (door_met os _)) ?_
  intro W base args ds gs before hval0 hW _ _ hL _
  have hval : ∀ (j : Nat) t v, Tryd.f3.params[j]? = some t → args[j]? = some v → Value.okWide Tryd.prog W .any base t v := hval0
  have hW' := hW
  obtain ⟨p, q, hA0, hV, rfl, hfz, hnd⟩ := hW
  have hA : DataW.TrodAll enc Tryd.prog W 0 (fun _ => true) true Tryd.f3.params.toList args.toList ds p := hA0
  rw [Tryd.params3] at hA hval
  obtain ⟨v0, vs0, d0, ds0, p0, q0, hargs, rfl, rfl, h0, r0⟩ := trodAll_cons hA
  obtain ⟨v1, vs1, d1, ds1, p1, q1, rfl, rfl, rfl, h1, r1⟩ := trodAll_cons r0
  obtain ⟨v2, vs2, d2, ds2, p2, q2, rfl, rfl, rfl, h2, r2⟩ := trodAll_cons r1
  obtain ⟨rfl, rfl, rfl⟩ := trodAll_nil r2
  obtain rfl : args = #[v0, v1, v2] := by cases args; simp_all
  obtain ⟨rfl, rfl⟩ := trodVars_none hV
  obtain ⟨n0, rfl, rfl, rfl, w0⟩ := open_int Tryd.underlying22 (hval 0 22 v0 rfl rfl) h0
  have hw0 : 0 ≤ n0 ∧ n0 ≤ 255 := by simpa [Lit.wf, IntKind.min, IntKind.max, IntKind.signed, IntKind.bits] using w0
  obtain ⟨a0, rfl⟩ : ∃ a : Nat, n0 = (a : Int) := ⟨n0.toNat, by rw [Int.toNat_of_nonneg hw0.1]⟩
  obtain ⟨n1, rfl, rfl, rfl, w1⟩ := open_int Tryd.underlying23 (hval 1 23 v1 rfl rfl) h1
  have hw1 : 0 ≤ n1 ∧ n1 ≤ 18446744073709551615 := by simpa [Lit.wf, IntKind.min, IntKind.max, IntKind.signed, IntKind.bits] using w1
  obtain ⟨a1, rfl⟩ : ∃ a : Nat, n1 = (a : Int) := ⟨n1.toNat, by rw [Int.toNat_of_nonneg hw1.1]⟩
  obtain ⟨n2, rfl, rfl, rfl, w2⟩ := open_int Tryd.underlying23 (hval 2 23 v2 rfl rfl) h2
  have hw2 : 0 ≤ n2 ∧ n2 ≤ 18446744073709551615 := by simpa [Lit.wf, IntKind.min, IntKind.max, IntKind.signed, IntKind.bits] using w2
  obtain ⟨a2, rfl⟩ : ∃ a : Nat, n2 = (a : Int) := ⟨n2.toNat, by rw [Int.toNat_of_nonneg hw2.1]⟩
  clear hA0 hval0
  refine (points_any a0 a1 a2 (by omega) (by omega) (by omega) W (of_laid hL)).mono fun e W' ⟨he, bel⟩ => ?_
  subst he
  exact ⟨_, rfl, _, _, _, [], _, [], hW', trodAll_mk1 (shut_bool Tryd.underlying4 _), (trodAll_cons_mk (shut_int Tryd.underlying22 w0) (trodAll_cons_mk (shut_int Tryd.underlying23 w1) (trodAll_cons_mk (shut_int Tryd.underlying23 w2) trodAll_mk0))), rfl, bel.frame _, fun h => by cases h⟩

theorem said : Rows.ExactPointsSaid :=
  OpenClaim.holds_of_wide 3 Tryd.f3 rfl rfl rfl rfl rfl rfl rfl ⟨rfl, rfl, rfl, rfl, rfl⟩ rfl rfl rfl rfl rfl (by kernel_rfl) Tryd.func3 (by kernel_rfl)
    (of_decide_eq_true (by kernel_rfl)) (by unfold Func.isWrapper; first | (rw [if_pos (by decide +kernel)]; kernel_rfl) | (rw [if_neg (by decide +kernel)]; exact ⟨rfl, rfl⟩))
    (fun os started H enc _ => lifted os started H enc)

theorem holds : Rows.ExactPointsCardSaid :=
  Claim7.holds_tied_plain_at .later [] [.data] true (true, "fe5556957101ca0be7292b19a89a04f9dae970be42226f72eb7fb443e5c22f9f") false
    said (fun _ h => by cases h) (by kernel_rfl) (fun _ h => by cases h) exactPoints_row_tie rfl ⟨rfl, rfl⟩ (by kernel_rfl) rfl
    (fun f fn hf hfn => by
      obtain rfl : f = 3 := Option.some.inj ((show Tryd.prog.funcNamed "ulp/ulplaw23.ExactPoints" = some 3 by kernel_rfl).symm.trans hf) |>.symm
      obtain rfl : fn = Tryd.f3 := (Option.some.inj (Tryd.func3.symm.trans hfn)).symm
      exact ⟨by kernel_rfl, fun j t ht => by
        rw [Tryd.params3] at ht
        have h3 : t = 22 ∨ t = 23 := by
          rcases j with _ | _ | _ | j
          · first | exact (by simpa using ht.symm) | exact .inl (by simpa using ht.symm) | exact .inr (by simpa using ht.symm)
          · first | exact (by simpa using ht.symm) | exact .inl (by simpa using ht.symm) | exact .inr (by simpa using ht.symm)
          · first | exact (by simpa using ht.symm) | exact .inl (by simpa using ht.symm) | exact .inr (by simpa using ht.symm)
          · simp at ht
        rcases h3 with rfl | rfl
        · exact (show Tryd.prog.wantsStandIn 22 = false by kernel_rfl)
        · exact (show Tryd.prog.wantsStandIn 23 = false by kernel_rfl)⟩)
    (by kernel_rfl)
end Go.Proofs.YtgpjplelgffocaaDoor.exactPoints
