/- Part 3 of the library of this claim: what the program and the document compute, as contracts of their functions. -/
import Derived.Test.YtgpjplelgffocaaDoorR2
namespace Go.Proofs.YtgpjplelgffocaaDoor
open Go.RowKit Go.Proofs.YtgpjplelgffocaaDoorW.PrintWords Limb
set_option linter.unusedVariables false
set_option linter.unusedSimpArgs false

def nearF (z : Int) (k : Nat) : Int := if ((z + 2 ^ k) / 2 ^ (k + 1)) % 2 ≠ 0 ∧ (z + 2 ^ k) / 2 ^ (k + 1) * 2 ^ (k + 1) - z = 2 ^ k then (z + 2 ^ k) / 2 ^ (k + 1) - 1 else (z + 2 ^ k) / 2 ^ (k + 1)
theorem sm_add {a b : Int} {n : Nat} (ha : a.natAbs < 2 ^ n) (hb : b.natAbs < 2 ^ n) : (a + b).natAbs < 2 ^ (n + 1) := by rw [Nat.pow_succ]; omega
theorem sm_sub {a b : Int} {n : Nat} (ha : a.natAbs < 2 ^ n) (hb : b.natAbs < 2 ^ n) : (a - b).natAbs < 2 ^ (n + 1) := by rw [Nat.pow_succ]; omega
theorem sm_mul {a : Int} {n k : Nat} (ha : a.natAbs < 2 ^ n) : (a * 2 ^ k).natAbs < 2 ^ (n + k) := by
  rw [natAbs_mul_pow, Nat.pow_add]; exact Nat.mul_lt_mul_of_pos_right ha (Nat.two_pow_pos k)
theorem sm_le {a : Int} {n m : Nat} (ha : a.natAbs < 2 ^ n) (h : n ≤ m) : a.natAbs < 2 ^ m := Nat.lt_of_lt_of_le ha (Nat.pow_le_pow_right (by decide) h)
theorem sm_pow (k : Nat) : ((2 : Int) ^ k).natAbs < 2 ^ (k + 1) := by
  rw [Int.natAbs_pow]; exact Nat.pow_lt_pow_right (by decide) (Nat.lt_succ_self _)
theorem sm_div {a : Int} {n k : Nat} (ha : a.natAbs < 2 ^ n) : (a / 2 ^ k).natAbs < 2 ^ (n + 1) := by
  have hp : (0 : Int) < 2 ^ k := Int.pow_pos (by decide)
  have h2 : (a / 2 ^ k).natAbs ≤ a.natAbs := by
    have := Int.natAbs_ediv_le_natAbs a (2 ^ k)
    exact this
  rw [Nat.pow_succ]
  have := Nat.two_pow_pos n
  omega
theorem cmpZ_zero (y z : Int) : (cmpZ y z == 0) = decide (y = z) := by
  unfold cmpZ
  by_cases h : y = z
  · subst h; simp
  · rw [decide_eq_false h]
    repeat' split
    all_goals first | rfl | omega
theorem odd_iff {n : Int} : (n % 2 ≠ 0) ↔ (cexp n 0 = 0 ∧ n ≠ 0) := by
  constructor
  · intro h
    refine ⟨?_, by rintro rfl; exact h rfl⟩
    unfold cexp
    split
    · rfl
    · rw [tz_odd (by omega)]; rfl
  · rintro ⟨h1, h2⟩
    obtain ⟨k, e1, e2, e3⟩ := of_form (e := 0) h2
    have hk : k = 0 := by omega
    subst hk
    have h3 := cman_odd h2
    have h4 : n.natAbs = cman n := by
      have := congrArg Int.natAbs e2
      rw [sgn_abs] at this; simpa using this
    omega

set_option maxRecDepth 100000 in
set_option maxHeartbeats 8000000 in
theorem near_ok {v : Value} {z : Int} {k : Nat} {w : World} (h : CDy w v z (-((k + 1 : Nat) : Int))) (hz : z.natAbs < 2 ^ 2200) (hk : k ≤ 2000) (hT : TabAt 0 Lib.deBruijn64tab w) :
    Calls Tryd.prog 103 #[v] w fun en w' => ∃ v', en = .returned v' ∧ PDy w' w.heap.size v' (nearF z k) 0 ∧ Below w.heap.size w w' := by
  have hk2 : ((2 : Int) ^ k).natAbs < 2 ^ 2200 := sm_le (m := 2200) (sm_pow k) (by omega)
  have hzk := sm_add hz hk2
  obtain ⟨e, he⟩ : ∃ e : Int, e = -((k + 1 : Nat) : Int) := ⟨_, rfl⟩
  have o1 : Ok z e := Ok.of 2200 hz (by decide) (by omega) (by omega)
  have o2 : Ok (2 ^ k) e := Ok.of 2200 hk2 (by decide) (by omega) (by omega)
  have o3 : Ok (z + 2 ^ k) e := Ok.of _ hzk (by decide) (by omega) (by omega)
  obtain ⟨m, hm⟩ : ∃ m, m = (z + 2 ^ k) / 2 ^ (k + 1) := ⟨_, rfl⟩
  have hms := sm_div (k := k + 1) hzk
  rw [← hm] at hms
  have hmk := sm_mul (k := k + 1) hms
  have o4 : Ok m 0 := Ok.of _ hms (by decide) (by decide) (by decide)
  have o5 : Ok (m * 2 ^ (k + 1)) e := Ok.of _ hmk (by omega) (by omega) (by omega)
  have o6 : Ok (m * 2 ^ (k + 1) - z) e := Ok.of _ (sm_sub hmk (sm_le hz (by omega))) (by omega) (by omega) (by omega)
  have o7 : Ok 1 0 := Ok.of 1 (by decide) (by decide) (by decide) (by decide)
  have HN : Aside0 (nearF z k = if m % 2 ≠ 0 ∧ m * 2 ^ (k + 1) - z = 2 ^ k then m - 1 else m) := ⟨by unfold nearF; rw [← hm]⟩
  have QP := Aside0.mk (fun (n : Int) (W : World) => ppower_dy n W)
  have HP := Aside0.mk (fun (v : Value) (b : Nat) (W : World) (h : PDy W b v 1 (-1)) => (by
    have q := PDy.scale (e := e) k (by rw [show e + (k : Int) = -1 by omega]; exact h)
    rw [Int.one_mul] at q; exact q : PDy W b v (2 ^ k) e))
  have HS := Aside0.mk (fun (v : Value) (b : Nat) (W : World) (h : PDy W b v m 0) => (by
    exact PDy.scale (e := e) (k + 1) (by rw [show e + ((k + 1 : Nat) : Int) = 0 by omega]; exact h) : PDy W b v (m * 2 ^ (k + 1)) e))
  have QA := Aside0.mk (fun (v2 : Value) (W : World) (hW : BelN w 2 W) (h2 : CDy W v2 (2 ^ k) e) => add_ok (h.below hW.1 |> (he ▸ ·)) h2 o1 o2 (tab_below hT hW.1))
  have QFl := Aside0.mk (fun (v2 : Value) (W : World) (hW : BelN w 2 W) (h2 : CDy W v2 (z + 2 ^ k) e) => (by
    have q := floor_ok (he ▸ h2) (he ▸ o3) (tab_below hT hW.1)
    rw [← hm] at q; exact q : Calls Tryd.prog 108 #[v2] W fun en w' => ∃ v', en = .returned v' ∧ PDy w' W.heap.size v' m 0 ∧ Below W.heap.size W w'))
  have QZ := Aside0.mk (fun (v2 : Value) (W : World) (h2 : CDy W v2 m 0) => zero_ok h2 o4)
  have QS := Aside0.mk (fun (v2 : Value) (W : World) (hW : BelN w 2 W) (h2 : CDy W v2 (m * 2 ^ (k + 1)) e) => sub_ok h2 (h.below hW.1 |> (he ▸ ·)) o5 o1 (tab_below hT hW.1))
  have QC := Aside0.mk (fun (u v2 : Value) (W : World) (hW : BelN w 2 W) (h1 : CDy W u (m * 2 ^ (k + 1) - z) e) (h2 : CDy W v2 (2 ^ k) e) => cmp_ok h1 h2 o6 o2 (tab_below hT hW.1))
  have QI := Aside0.mk (fun (W : World) (hW : BelN w 2 W) => pint_dy 1 W (by decide) (by decide) (tab_below hT hW.1))
  have QT := Aside0.mk (fun (u v2 : Value) (W : World) (hW : BelN w 2 W) (h1 : CDy W u m 0) (h2 : CDy W v2 1 0) => sub_ok h1 h2 o4 o7 (tab_below hT hW.1))
  have HC : Aside0 ((cmpZ (m * 2 ^ (k + 1) - z) (2 ^ k) == 0) = decide (m * 2 ^ (k + 1) - z = 2 ^ k)) := ⟨cmpZ_zero _ _⟩
  have HODD : Aside0 ((m % 2 ≠ 0) ↔ (cexp m 0 = 0 ∧ m ≠ 0)) := ⟨odd_iff⟩
  obtain ⟨b0, A, n, c, x0, rfl⟩ := h.ex
  have HCD := Aside0.mk h
  have HT := Aside0.mk hT
  clear h hT hz hk hk2 hzk he o1 o2 o3 hm hms hmk o4 o5 o6 o7
  go_enter Tryd.func103, Tryd.ntmps103
  go_upto_region 1 with fail
  obtain ⟨W0, hW0⟩ : ∃ W0, W0 = (w.alloc (.cells #[.bool b0, .slice A n c, .int .i64 x0] 27)).alloc (.cells #[.bool false, .slice none 0 0, .int .i64 0] 27) := ⟨_, rfl⟩
  have BEL : Aside0 (BelN w 2 ((w.alloc (.cells #[.bool b0, .slice A n c, .int .i64 x0] 27)).alloc (.cells #[.bool false, .slice none 0 0, .int .i64 0] 27))) := ⟨(((BelN.zero w).alloc _).alloc _).less (by decide)⟩
  have X0 : Aside0 (((w.alloc (.cells #[.bool b0, .slice A n c, .int .i64 x0] 27)).alloc (.cells #[.bool false, .slice none 0 0, .int .i64 0] 27)).heap[w.heap.size]? = some (.cells #[.bool b0, .slice A n c, .int .i64 x0] 27 (0, 0))) := ⟨by have h := blk_new w (.cells #[.bool b0, .slice A n c, .int .i64 x0] 27); exact blk_alloc (h) _⟩
  have XR : Aside0 (((w.alloc (.cells #[.bool b0, .slice A n c, .int .i64 x0] 27)).alloc (.cells #[.bool false, .slice none 0 0, .int .i64 0] 27)).heap[w.heap.size + 1]? = some (.cells #[.bool false, .slice none 0 0, .int .i64 0] 27 (0, 0))) := ⟨by have h := blk_new (w.alloc (.cells #[.bool b0, .slice A n c, .int .i64 x0] 27)) (.cells #[.bool false, .slice none 0 0, .int .i64 0] 27); rw [size_alloc'] at h; exact h⟩
  rw [← hW0] at BEL X0 XR ⊢
  clear hW0
  obtain ⟨GM, hGM⟩ : ∃ G : (Nat → Prop) → (Nat → Value) → World → Prop, G = fun L v W => BelN w 2 W ∧ W.heap[w.heap.size]? = some (.cells #[.bool b0, .slice A n c, .int .i64 x0] 27 (0, 0)) ∧ W.heap[w.heap.size + 1]? = some (.cells #[.bool false, .slice none 0 0, .int .i64 0] 27 (0, 0)) ∧ (L 0 → (v 0) = .agg #[.bool b0, .slice A n c, .int .i64 x0]) ∧ (L 1 → PDy W w.heap.size (v 1) 1 (-1)) ∧ (L 2 → PDy W w.heap.size (v 2) (z + 2 ^ k) e) ∧ (L 3 → PDy W w.heap.size (v 3) m 0) ∧ (L 4 → ∃ g : Nat, (v 4) = .pointer (some ⟨g, 0, none⟩) ∧ w.heap.size + 2 ≤ g ∧ (¬ L 5 → W.heap[g]? = some (.cells #[.bool false, .slice none 0 0, .int .i64 0] 27 (0, 0))) ∧ (L 5 → ∃ (bb : Bool) (A : Option Addr) (n c : Nat) (x : Int), (v 3) = .agg #[.bool bb, .slice A n c, .int .i64 x] ∧ W.heap[g]? = some (.cells #[.bool bb, .slice A n c, .int .i64 x] 27 (0, 0)))) ∧ True := ⟨_, rfl⟩
  refine wp_region_slotsV [4, 5, 6, 7, 3] (by kernel_rfl) (by kernel_rfl) (G := GM) ?h0M ?hstepM ?hendM
  case h0M =>
    intro v; rw [hGM]
    exact ⟨BEL.out.next (below_drew (Below.refl _ _)), blk_drew X0.out, blk_drew XR.out, fun h => h.elim, fun h => h.elim, fun h => h.elim, fun h => h.elim, fun h => h.elim, trivial⟩
  case hstepM =>
    intro k o ho v W L hGv hnk haft hcl K hK
    rw [hGM] at hGv
    obtain ⟨hB, hb0, hb1, f0, f1, f2, f3, f4, f5⟩ := hGv
    rcases k with _ | _ | _ | _ | _ | _ | k
    all_goals first
      | (cases ho; done)
      | (obtain rfl := (Option.some.inj ho).symm
         clear ho
         rw [if_pos (by rfl)]
         simp only [setAll, List.setIfInBounds_toArray, List.set_cons_zero, List.set_cons_succ, List.set_nil, List.getElem_toArray, List.getElem_cons_zero, List.getElem_cons_succ, Nat.reduceAdd] at haft hK ⊢)
    case zero =>
      have cc0 := (box_cell (v := .bool b0) hb0 0 rfl).1
      have cc1 := (box_cell (v := .slice A n c) hb0 1 rfl).1
      have cc2 := (box_cell (v := .int .i64 x0) hb0 2 rfl).1
      have hb := Below.refl W.heap.size W
      have key := hK.out (.agg #[.bool b0, .slice A n c, .int .i64 x0]) W (by rw [hGM]; exact ⟨hB.next hb, blk_below hb0 hb, blk_below hb1 hb, fun _ => by rw [upd_eq], (kd f1 (by decide) hb), (kd f2 (by decide) hb), (kd f3 (by decide) hb), (fun h => by obtain ⟨g, e1, e2, e3, e4⟩ := f4 (h.resolve_right (by decide)); rw [upd_ne v _ (by decide), upd_ne v _ (by decide)]; exact ⟨g, e1, e2, fun h2 => blk_below (e3 (fun h3 => h2 (.inl h3))) hb, fun h2 => by obtain ⟨bb, A, n, c, x, y1, y2⟩ := e4 (h2.resolve_right (by decide)); exact ⟨bb, A, n, c, x, y1, blk_below y2 hb⟩⟩), trivial⟩)
      clear hb0 hb1 f0 f1 f2 f3 f4 f5 hb hK
      go_simp
      simpa [upd] using key
    case succ.zero =>
      have HALL := Aside0.mk (And.intro hK (And.intro hB (And.intro hb0 ( And.intro hb1 ( And.intro f0 ( And.intro f1 ( And.intro f2 ( And.intro f3 ( And.intro f4 ( And.intro f5 (True.intro)))))))))))
      clear hK hb0 hb1 f0 f1 f2 f3 f4 f5
      go_simp
      go_at_call 79
      refine (QP.out (-1) W).mono ?_
      rintro en w4 ⟨v1, rfl, hr, hb⟩
      obtain ⟨hK, hB, hb0, hb1, f0, f1, f2, f3, f4, f5, _⟩ := HALL.out
      have key := hK.out (v1) w4 (by rw [hGM]; exact ⟨hB.next hb, blk_below hb0 hb, blk_below hb1 hb, (kv f0 (by decide)), fun _ => by rw [upd_eq]; exact hr.lower (Nat.le_trans (Nat.le_add_right _ _) hB.2), (kd f2 (by decide) hb), (kd f3 (by decide) hb), (fun h => by obtain ⟨g, e1, e2, e3, e4⟩ := f4 (h.resolve_right (by decide)); rw [upd_ne v _ (by decide), upd_ne v _ (by decide)]; exact ⟨g, e1, e2, fun h2 => blk_below (e3 (fun h3 => h2 (.inl h3))) hb, fun h2 => by obtain ⟨bb, A, n, c, x, y1, y2⟩ := e4 (h2.resolve_right (by decide)); exact ⟨bb, A, n, c, x, y1, blk_below y2 hb⟩⟩), trivial⟩)
      clear hb0 hb1 f0 f1 f2 f3 f4 f5 hK HALL
      simpa [upd] using key
    case succ.succ.zero =>
      have d0 := f0 (haft { on := 0, ground := .data } (by simp) rfl)
      have D0 := d0
      have d1 := f1 (haft { on := 1, ground := .data } (by simp) rfl)
      have D1 := d1
      have HALL := Aside0.mk (And.intro hK (And.intro hB (And.intro hb0 ( And.intro hb1 ( And.intro f0 ( And.intro f1 ( And.intro f2 ( And.intro f3 ( And.intro f4 ( And.intro f5 (True.intro)))))))))))
      clear hK hb0 hb1 f0 f1 f2 f3 f4 f5
      go_simp
      go_at_call 83
      refine (QA.out (v 1) W hB (HP.out _ _ _ d1).c).mono ?_
      rintro en w4 ⟨v1, rfl, hr, hb⟩
      obtain ⟨hK, hB, hb0, hb1, f0, f1, f2, f3, f4, f5, _⟩ := HALL.out
      have key := hK.out (v1) w4 (by rw [hGM]; exact ⟨hB.next hb, blk_below hb0 hb, blk_below hb1 hb, (kv f0 (by decide)), (kd f1 (by decide) hb), fun _ => by rw [upd_eq]; exact hr.lower (Nat.le_trans (Nat.le_add_right _ _) hB.2), (kd f3 (by decide) hb), (fun h => by obtain ⟨g, e1, e2, e3, e4⟩ := f4 (h.resolve_right (by decide)); rw [upd_ne v _ (by decide), upd_ne v _ (by decide)]; exact ⟨g, e1, e2, fun h2 => blk_below (e3 (fun h3 => h2 (.inl h3))) hb, fun h2 => by obtain ⟨bb, A, n, c, x, y1, y2⟩ := e4 (h2.resolve_right (by decide)); exact ⟨bb, A, n, c, x, y1, blk_below y2 hb⟩⟩), trivial⟩)
      clear hb0 hb1 f0 f1 f2 f3 f4 f5 hK HALL
      simpa [upd, D0] using key
    case succ.succ.succ.zero =>
      have hns5 : ¬ L 5 := fun hs => hnk (hcl 5 _ rfl hs { on := 3, ground := .data } (by simp) rfl)
      have d2 := f2 (haft { on := 2, ground := .data } (by simp) rfl)
      have D2 := d2
      have HALL := Aside0.mk (And.intro hK (And.intro hB (And.intro hb0 ( And.intro hb1 ( And.intro f0 ( And.intro f1 ( And.intro f2 ( And.intro f3 ( And.intro f4 ( And.intro f5 (True.intro)))))))))))
      clear hK hb0 hb1 f0 f1 f2 f3 f4 f5
      go_simp
      go_at_call 108
      refine (QFl.out (v 2) W hB d2.c).mono ?_
      rintro en w4 ⟨v1, rfl, hr, hb⟩
      obtain ⟨hK, hB, hb0, hb1, f0, f1, f2, f3, f4, f5, _⟩ := HALL.out
      have key := hK.out (v1) w4 (by rw [hGM]; exact ⟨hB.next hb, blk_below hb0 hb, blk_below hb1 hb, (kv f0 (by decide)), (kd f1 (by decide) hb), (kd f2 (by decide) hb), fun _ => by rw [upd_eq]; exact hr.lower (Nat.le_trans (Nat.le_add_right _ _) hB.2), (fun h => by obtain ⟨g, e1, e2, e3, e4⟩ := f4 (h.resolve_right (by decide)); rw [upd_ne v _ (by decide)]; exact ⟨g, e1, e2, fun h2 => blk_below (e3 (fun h3 => h2 (.inl h3))) hb, fun h2 => (hns5 (h2.resolve_right (by decide))).elim⟩), trivial⟩)
      clear hb0 hb1 f0 f1 f2 f3 f4 f5 hK HALL
      simpa [upd] using key
    case succ.succ.succ.succ.zero =>
      have hns5 : ¬ L 5 := fun hs => hnk (hcl 5 _ rfl hs { on := 4, ground := .data } (by simp) rfl)
      have hb := below_alloc (Below.refl W.heap.size W) (.cells #[.bool false, .slice none 0 0, .int .i64 0] 27)
      have key := hK.out (.pointer (some ⟨W.heap.size, 0, none⟩)) (W.alloc (.cells #[.bool false, .slice none 0 0, .int .i64 0] 27)) (by rw [hGM]; exact ⟨hB.next hb, blk_below hb0 hb, blk_below hb1 hb, (kv f0 (by decide)), (kd f1 (by decide) hb), (kd f2 (by decide) hb), (kd f3 (by decide) hb), fun _ => by rw [upd_eq]; exact ⟨W.heap.size, rfl, hB.2, fun _ => blk_new W _, fun h2 => (hns5 (h2.resolve_right (by decide))).elim⟩, trivial⟩)
      clear hb0 hb1 f0 f1 f2 f3 f4 f5 hK hb hns5
      go_simp
      simpa [upd] using key
    case succ.succ.succ.succ.succ.zero =>
      obtain ⟨g, e1, e2, e3, -⟩ := f4 (haft { on := 4, ground := .data } (by simp) rfl)
      have hgb := e3 hnk
      have ds := f3 (haft { on := 3, ground := .data } (by simp) rfl)
      obtain ⟨bb, A, n, c, x, es⟩ := ds.ex
      refine wp_store_box 27 3 (.tmp 7) rfl rfl (g := g) (e := 27) (v 3) [.bool bb, .slice A n c, .int .i64 x] (by first | rfl | exact e1) rfl (by rw [es]; rfl) info_dyad ?_ hgb rfl ?_
      · intro q hq; simp at hq; rcases hq with rfl | rfl | rfl <;> rfl
      · intro w1 hw1 hg
        have key := hK.out undef w1 (by rw [hGM]; exact ⟨hB.grown hg (by omega), blk_grown hb0 hg (by omega), blk_grown hb1 hg (by omega), (kv f0 (by decide)), (kg f1 (by decide) hgb (by decide) hg), (kg f2 (by decide) hgb (by decide) hg), (kg f3 (by decide) hgb (by decide) hg), (fun h => by rw [upd_ne v _ (by decide), upd_ne v _ (by decide)]; exact ⟨g, e1, e2, fun h2 => (h2 (.inr rfl)).elim, fun _ => ⟨bb, A, n, c, x, es, hw1⟩⟩), trivial⟩)
        clear hb0 hb1 f0 f1 f2 f3 f4 f5 hK
        simpa [upd] using key
  case hendM =>
    intro v W L0 hall hGv
    rw [hGM] at hGv
    obtain ⟨hB, hb0, hb1, f0, f1, f2, f3, f4, _⟩ := hGv
    have BEL := Aside0.mk hB
    have X0 := Aside0.mk hb0
    have XR := Aside0.mk hb1
    have d3 := f3 (hall 3 (by decide))
    obtain ⟨g, p4, hgs, _, hg5⟩ := f4 (hall 4 (by decide))
    obtain ⟨b7, A7, n7, c7, x7, p3, hx7⟩ := hg5 (hall 5 (by decide))
    rw [p3] at d3
    have X3 := Aside0.mk hx7
    have P3 := Aside0.mk d3
    obtain ⟨-, ex7, -⟩ := CDy.parts d3.c
    have HX7 := Aside0.mk ex7
    have HGS := Aside0.mk hgs
    clear hall f0 f1 f2 f3 f4 hB hb0 hb1 d3 hx7 hg5 hgs ex7
    simp only [setAll, List.setIfInBounds_toArray, List.set_cons_zero, List.set_cons_succ, Nat.reduceAdd, p3, p4]
    by_cases hx : x7 = 0
    case neg =>
      have hx0 : (x7 == 0) = false := by simpa using hx
      obtain ⟨q0, q0'⟩ := box_cell X3.out 0 rfl
      obtain ⟨q1, q1'⟩ := box_cell X3.out 1 rfl
      obtain ⟨q2, q2'⟩ := box_cell X3.out 2 rfl
      obtain ⟨q3, q3'⟩ := box_cell X0.out 0 rfl
      obtain ⟨q4, q4'⟩ := box_cell X0.out 1 rfl
      obtain ⟨q5, q5'⟩ := box_cell X0.out 2 rfl
      go_wp2_with (clear q0 q0' q1 q1' q2 q2' q3 q3' q4 q4' q5 q5'; ((with_reducible refine gate_store (p := 2) rfl ?_); go_must (refine store_box 27 2 (.tmp 27) rfl rfl rfl (g := w.heap.size + 1) (e := 27) (.agg #[.bool b7, .slice A7 n7 c7, .int .i64 x7]) ([.bool b7, .slice A7 n7 c7, .int .i64 x7]) rfl rfl rfl info_dyad ?b1 XR.out rfl ?_; (case b1 => intro q hq; simp at hq; rcases hq with rfl | rfl | rfl <;> rfl); intro wb hbx hgx; have HX := Aside0.mk hbx; have HG := Aside0.mk hgx; clear hbx hgx)); replace P3 := Aside0.mk (P3.out.grown_box XR.out (by decide) HG.out); replace BEL := Aside0.mk (BEL.out.grown HG.out (by omega)); replace X0 := Aside0.mk (blk_grown X0.out HG.out (by have h_g := HGS.out; omega)); replace X3 := Aside0.mk (blk_grown X3.out HG.out (by have h_g := HGS.out; omega)); replace XR := HX; clear HG)
      refine bodyPost_ret (results_dyad rfl _ _ (w.heap.size + 1) _ rfl XR.out rfl) rfl ?_
      refine ⟨_, rfl, ?_, BEL.out.1⟩
      rw [HN.out, if_neg (fun h => hx (by rw [HX7.out]; exact (HODD.out.1 h.1).1))]
      exact P3.out
    by_cases hm0 : m = 0
    case pos =>
      subst hx
      obtain ⟨q0, q0'⟩ := box_cell X3.out 0 rfl
      obtain ⟨q1, q1'⟩ := box_cell X3.out 1 rfl
      obtain ⟨q2, q2'⟩ := box_cell X3.out 2 rfl
      obtain ⟨q3, q3'⟩ := box_cell X0.out 0 rfl
      obtain ⟨q4, q4'⟩ := box_cell X0.out 1 rfl
      obtain ⟨q5, q5'⟩ := box_cell X0.out 2 rfl
      go_wp2_with fail
      clear q0 q0' q1 q1' q2 q2' q3 q3' q4 q4' q5 q5'
      go_at_call 22
      refine (QZ.out _ _ P3.out.c).mono ?_
      rintro en11 w11 ⟨rfl, hb⟩
      replace BEL := Aside0.mk (BEL.out.next hb)
      replace X0 := Aside0.mk (blk_below X0.out hb)
      replace XR := Aside0.mk (blk_below XR.out hb)
      replace X3 := Aside0.mk (blk_below X3.out hb)
      replace P3 := Aside0.mk (P3.out.below hb)
      clear hb
      have hd : decide (m = 0) = true := decide_eq_true hm0
      obtain ⟨q6, q6'⟩ := box_cell X3.out 0 rfl
      obtain ⟨q7, q7'⟩ := box_cell X3.out 1 rfl
      obtain ⟨q8, q8'⟩ := box_cell X3.out 2 rfl
      obtain ⟨q9, q9'⟩ := box_cell X0.out 0 rfl
      obtain ⟨q10, q10'⟩ := box_cell X0.out 1 rfl
      obtain ⟨q11, q11'⟩ := box_cell X0.out 2 rfl
      go_wp2_with (clear q6 q6' q7 q7' q8 q8' q9 q9' q10 q10' q11 q11'; ((with_reducible refine gate_store (p := 2) rfl ?_); go_must (refine store_box 27 2 (.tmp 27) rfl rfl rfl (g := w.heap.size + 1) (e := 27) (.agg #[.bool b7, .slice A7 n7 c7, .int .i64 0]) ([.bool b7, .slice A7 n7 c7, .int .i64 0]) rfl rfl rfl info_dyad ?b1 XR.out rfl ?_; (case b1 => intro q hq; simp at hq; rcases hq with rfl | rfl | rfl <;> rfl); intro wb hbx hgx; have HX := Aside0.mk hbx; have HG := Aside0.mk hgx; clear hbx hgx)); replace P3 := Aside0.mk (P3.out.grown_box XR.out (by decide) HG.out); replace BEL := Aside0.mk (BEL.out.grown HG.out (by omega)); replace X0 := Aside0.mk (blk_grown X0.out HG.out (by have h_g := HGS.out; omega)); replace X3 := Aside0.mk (blk_grown X3.out HG.out (by have h_g := HGS.out; omega)); replace XR := HX; clear HG)
      refine bodyPost_ret (results_dyad rfl _ _ (w.heap.size + 1) _ rfl XR.out rfl) rfl ?_
      refine ⟨_, rfl, ?_, BEL.out.1⟩
      rw [HN.out, if_neg (fun h => (HODD.out.1 h.1).2 hm0)]
      exact P3.out
    case neg =>
      subst hx
      have hodd : m % 2 ≠ 0 := HODD.out.2 ⟨by rw [← HX7.out], hm0⟩
      have HOD := Aside0.mk hodd
      clear hodd
      obtain ⟨q0, q0'⟩ := box_cell X3.out 0 rfl
      obtain ⟨q1, q1'⟩ := box_cell X3.out 1 rfl
      obtain ⟨q2, q2'⟩ := box_cell X3.out 2 rfl
      obtain ⟨q3, q3'⟩ := box_cell X0.out 0 rfl
      obtain ⟨q4, q4'⟩ := box_cell X0.out 1 rfl
      obtain ⟨q5, q5'⟩ := box_cell X0.out 2 rfl
      go_wp2_with fail
      clear q0 q0' q1 q1' q2 q2' q3 q3' q4 q4' q5 q5'
      go_at_call 22
      refine (QZ.out _ _ P3.out.c).mono ?_
      rintro en11 w11 ⟨rfl, hb⟩
      replace BEL := Aside0.mk (BEL.out.next hb)
      replace X0 := Aside0.mk (blk_below X0.out hb)
      replace XR := Aside0.mk (blk_below XR.out hb)
      replace X3 := Aside0.mk (blk_below X3.out hb)
      replace P3 := Aside0.mk (P3.out.below hb)
      clear hb
      have hd : decide (m = 0) = false := decide_eq_false hm0
      obtain ⟨q6, q6'⟩ := box_cell X3.out 0 rfl
      obtain ⟨q7, q7'⟩ := box_cell X3.out 1 rfl
      obtain ⟨q8, q8'⟩ := box_cell X3.out 2 rfl
      obtain ⟨q9, q9'⟩ := box_cell X0.out 0 rfl
      obtain ⟨q10, q10'⟩ := box_cell X0.out 1 rfl
      obtain ⟨q11, q11'⟩ := box_cell X0.out 2 rfl
      go_wp2_with fail
      clear q6 q6' q7 q7' q8 q8' q9 q9' q10 q10' q11 q11'
      go_at_call 81
      refine (QS.out _ _ BEL.out (HS.out _ _ _ P3.out).c).mono ?_
      rintro en12 w12 ⟨v12, rfl, hr, hb⟩
      replace BEL := Aside0.mk (BEL.out.next hb)
      replace X0 := Aside0.mk (blk_below X0.out hb)
      replace XR := Aside0.mk (blk_below XR.out hb)
      replace X3 := Aside0.mk (blk_below X3.out hb)
      replace P3 := Aside0.mk (P3.out.below hb)
      have PS := Aside0.mk hr
      obtain ⟨b12, A12, n12, c12, x12, rfl⟩ := hr.ex
      clear hr hb
      go_wp2_with fail
      go_at_call 79
      refine (QP.out (-1) _).mono ?_
      rintro en13 w13 ⟨v13, rfl, hr, hb⟩
      replace BEL := Aside0.mk (BEL.out.next hb)
      replace X0 := Aside0.mk (blk_below X0.out hb)
      replace XR := Aside0.mk (blk_below XR.out hb)
      replace X3 := Aside0.mk (blk_below X3.out hb)
      replace P3 := Aside0.mk (P3.out.below hb)
      replace PS := Aside0.mk (PS.out.below hb)
      have PH := Aside0.mk hr
      obtain ⟨b13, A13, n13, c13, x13, rfl⟩ := hr.ex
      clear hr hb
      go_wp2_with fail
      go_at_call 48
      refine (QC.out _ _ _ BEL.out PS.out.c (HP.out _ _ _ PH.out).c).mono ?_
      rintro en14 w14 ⟨rfl, hb⟩
      replace BEL := Aside0.mk (BEL.out.next hb)
      replace X0 := Aside0.mk (blk_below X0.out hb)
      replace XR := Aside0.mk (blk_below XR.out hb)
      replace X3 := Aside0.mk (blk_below X3.out hb)
      replace P3 := Aside0.mk (P3.out.below hb)
      replace PS := Aside0.mk (PS.out.below hb)
      replace PH := Aside0.mk (PH.out.below hb)
      clear hb
      by_cases hcc : m * 2 ^ (k + 1) - z = 2 ^ k
      case neg =>
        have HCE := Aside0.mk hcc
        have hcz : (cmpZ (m * 2 ^ (k + 1) - z) (2 ^ k) == 0) = false := HC.out.trans (decide_eq_false hcc)
        clear hcc
        obtain ⟨q12, q12'⟩ := box_cell X3.out 0 rfl
        obtain ⟨q13, q13'⟩ := box_cell X3.out 1 rfl
        obtain ⟨q14, q14'⟩ := box_cell X3.out 2 rfl
        obtain ⟨q15, q15'⟩ := box_cell X0.out 0 rfl
        obtain ⟨q16, q16'⟩ := box_cell X0.out 1 rfl
        obtain ⟨q17, q17'⟩ := box_cell X0.out 2 rfl
        go_wp2_with (clear q12 q12' q13 q13' q14 q14' q15 q15' q16 q16' q17 q17'; ((with_reducible refine gate_store (p := 2) rfl ?_); go_must (refine store_box 27 2 (.tmp 27) rfl rfl rfl (g := w.heap.size + 1) (e := 27) (.agg #[.bool b7, .slice A7 n7 c7, .int .i64 0]) ([.bool b7, .slice A7 n7 c7, .int .i64 0]) rfl rfl rfl info_dyad ?b1 XR.out rfl ?_; (case b1 => intro q hq; simp at hq; rcases hq with rfl | rfl | rfl <;> rfl); intro wb hbx hgx; have HX := Aside0.mk hbx; have HG := Aside0.mk hgx; clear hbx hgx)); replace P3 := Aside0.mk (P3.out.grown_box XR.out (by decide) HG.out); replace PS := Aside0.mk (PS.out.grown_box XR.out (by decide) HG.out); replace PH := Aside0.mk (PH.out.grown_box XR.out (by decide) HG.out); replace BEL := Aside0.mk (BEL.out.grown HG.out (by omega)); replace X0 := Aside0.mk (blk_grown X0.out HG.out (by have h_g := HGS.out; omega)); replace X3 := Aside0.mk (blk_grown X3.out HG.out (by have h_g := HGS.out; omega)); replace XR := HX; clear HG)
        refine bodyPost_ret (results_dyad rfl _ _ (w.heap.size + 1) _ rfl XR.out rfl) rfl ?_
        refine ⟨_, rfl, ?_, BEL.out.1⟩
        rw [HN.out, if_neg (fun h => HCE.out h.2)]
        exact P3.out
      case pos =>
        have HCE := Aside0.mk hcc
        have hcz : (cmpZ (m * 2 ^ (k + 1) - z) (2 ^ k) == 0) = true := HC.out.trans (decide_eq_true hcc)
        clear hcc
        obtain ⟨q12, q12'⟩ := box_cell X3.out 0 rfl
        obtain ⟨q13, q13'⟩ := box_cell X3.out 1 rfl
        obtain ⟨q14, q14'⟩ := box_cell X3.out 2 rfl
        obtain ⟨q15, q15'⟩ := box_cell X0.out 0 rfl
        obtain ⟨q16, q16'⟩ := box_cell X0.out 1 rfl
        obtain ⟨q17, q17'⟩ := box_cell X0.out 2 rfl
        go_upto_region 3 with fail
        clear q12 q12' q13 q13' q14 q14' q15 q15' q16 q16' q17 q17'
        obtain ⟨wz, hwz⟩ : ∃ wz, wz = w13 := ⟨_, rfl⟩
        obtain ⟨GN, hGN⟩ : ∃ G : (Nat → Prop) → (Nat → Value) → World → Prop, G = fun L v W => BelN w 2 W ∧ W.heap[w.heap.size]? = some (.cells #[.bool b0, .slice A n c, .int .i64 x0] 27 (0, 0)) ∧ W.heap[g]? = some (.cells #[.bool b7, .slice A7 n7 c7, .int .i64 0] 27 (0, 0)) ∧ PDy W w.heap.size (.agg #[.bool b7, .slice A7 n7 c7, .int .i64 0]) m 0 ∧ (L 0 → (v 0) = .agg #[.bool b7, .slice A7 n7 c7, .int .i64 0]) ∧ (L 1 → PDy W w.heap.size (v 1) 1 0) ∧ (L 2 → PDy W w.heap.size (v 2) (m - 1) 0) ∧ ((¬ L 3 → W.heap[w.heap.size + 1]? = some (.cells #[.bool false, .slice none 0 0, .int .i64 0] 27 (0, 0))) ∧ (L 3 → ∃ (bb : Bool) (A : Option Addr) (n c : Nat) (x : Int), (v 2) = .agg #[.bool bb, .slice A n c, .int .i64 x] ∧ W.heap[w.heap.size + 1]? = some (.cells #[.bool bb, .slice A n c, .int .i64 x] 27 (0, 0)))) := ⟨_, rfl⟩
        refine wp_region_slotsV [24, 25, 26] (by kernel_rfl) (by kernel_rfl) (G := GN) ?h0N ?hstepN ?hendN
        case h0N =>
          intro v; rw [hGN]
          exact ⟨BEL.out.next (below_drew (Below.refl _ _)), blk_drew X0.out, blk_drew X3.out, P3.out.below (below_drew (Below.refl _ _)), fun h => h.elim, fun h => h.elim, fun h => h.elim, ⟨fun _ => blk_drew XR.out, fun h => h.elim⟩⟩
        case hstepN =>
          intro k o ho v W L hGv hnk haft hcl K hK
          rw [hGN] at hGv
          obtain ⟨hB, hb0, hb1, hk0, f0, f1, f2, f3⟩ := hGv
          rcases k with _ | _ | _ | _ | k
          all_goals first
            | (cases ho; done)
            | (obtain rfl := (Option.some.inj ho).symm
               clear ho
               rw [if_pos (by rfl)]
               simp only [setAll, List.setIfInBounds_toArray, List.set_cons_zero, List.set_cons_succ, List.set_nil, List.getElem_toArray, List.getElem_cons_zero, List.getElem_cons_succ, Nat.reduceAdd] at haft hK ⊢)
          case zero =>
            have cc0 := (box_cell (v := .bool b7) hb1 0 rfl).1
            have cc1 := (box_cell (v := .slice A7 n7 c7) hb1 1 rfl).1
            have cc2 := (box_cell (v := .int .i64 0) hb1 2 rfl).1
            have hb := Below.refl W.heap.size W
            have key := hK.out (.agg #[.bool b7, .slice A7 n7 c7, .int .i64 0]) W (by rw [hGN]; exact ⟨hB.next hb, blk_below hb0 hb, blk_below hb1 hb, hk0.below hb, fun _ => by rw [upd_eq], (kd f1 (by decide) hb), (kd f2 (by decide) hb), (⟨fun h2 => blk_below (f3.1 (fun h3 => h2 (.inl h3))) hb, fun h2 => by rw [upd_ne v _ (by decide)]; obtain ⟨bb, A, n, c, x, y1, y2⟩ := f3.2 (h2.resolve_right (by decide)); exact ⟨bb, A, n, c, x, y1, blk_below y2 hb⟩⟩)⟩)
            clear hb0 hb1 hk0 f0 f1 f2 f3 hb hK
            go_simp
            simpa [upd] using key
          case succ.zero =>
            have HALL := Aside0.mk (And.intro hK (And.intro hB (And.intro hb0 ( And.intro hb1 ( And.intro hk0 ( And.intro f0 ( And.intro f1 ( And.intro f2 ( And.intro f3 (True.intro))))))))))
            clear hK hb0 hb1 hk0 f0 f1 f2 f3
            go_simp
            go_at_call 68
            refine (QI.out W hB).mono ?_
            rintro en w4 ⟨v1, rfl, hr, hb⟩
            obtain ⟨hK, hB, hb0, hb1, hk0, f0, f1, f2, f3, _⟩ := HALL.out
            have key := hK.out (v1) w4 (by rw [hGN]; exact ⟨hB.next hb, blk_below hb0 hb, blk_below hb1 hb, hk0.below hb, (kv f0 (by decide)), fun _ => by rw [upd_eq]; exact hr.lower (Nat.le_trans (Nat.le_add_right _ _) hB.2), (kd f2 (by decide) hb), (⟨fun h2 => blk_below (f3.1 (fun h3 => h2 (.inl h3))) hb, fun h2 => by rw [upd_ne v _ (by decide)]; obtain ⟨bb, A, n, c, x, y1, y2⟩ := f3.2 (h2.resolve_right (by decide)); exact ⟨bb, A, n, c, x, y1, blk_below y2 hb⟩⟩)⟩)
            clear hb0 hb1 hk0 f0 f1 f2 f3 hK HALL
            simpa [upd] using key
          case succ.succ.zero =>
            have hns3 : ¬ L 3 := fun hs => hnk (hcl 3 _ rfl hs { on := 2, ground := .data } (by simp) rfl)
            have d0 := f0 (haft { on := 0, ground := .data } (by simp) rfl)
            have D0 := d0
            have d1 := f1 (haft { on := 1, ground := .data } (by simp) rfl)
            have D1 := d1
            have K0 := hk0
            have HALL := Aside0.mk (And.intro hK (And.intro hB (And.intro hb0 ( And.intro hb1 ( And.intro hk0 ( And.intro f0 ( And.intro f1 ( And.intro f2 ( And.intro f3 (True.intro))))))))))
            clear hK hb0 hb1 hk0 f0 f1 f2 f3
            go_simp
            go_at_call 81
            refine (QT.out _ (v 1) W hB K0.c d1.c).mono ?_
            rintro en w4 ⟨v1, rfl, hr, hb⟩
            obtain ⟨hK, hB, hb0, hb1, hk0, f0, f1, f2, f3, _⟩ := HALL.out
            have key := hK.out (v1) w4 (by rw [hGN]; exact ⟨hB.next hb, blk_below hb0 hb, blk_below hb1 hb, hk0.below hb, (kv f0 (by decide)), (kd f1 (by decide) hb), fun _ => by rw [upd_eq]; exact hr.lower (Nat.le_trans (Nat.le_add_right _ _) hB.2), (⟨fun h2 => blk_below (f3.1 (fun h3 => h2 (.inl h3))) hb, fun h2 => (hns3 (h2.resolve_right (by decide))).elim⟩)⟩)
            clear hb0 hb1 hk0 f0 f1 f2 f3 hK HALL
            simpa [upd, D0] using key
          case succ.succ.succ.zero =>
            have h_g := HGS.out
            have hgb := f3.1 hnk
            have ds := f2 (haft { on := 2, ground := .data } (by simp) rfl)
            obtain ⟨bb, A, n, c, x, es⟩ := ds.ex
            refine wp_store_box 27 2 (.tmp 26) rfl rfl (g := w.heap.size + 1) (e := 27) (v 2) [.bool bb, .slice A n c, .int .i64 x] (by first | rfl | exact rfl) rfl (by rw [es]; rfl) info_dyad ?_ hgb rfl ?_
            · intro q hq; simp at hq; rcases hq with rfl | rfl | rfl <;> rfl
            · intro w1 hw1 hg
              have key := hK.out undef w1 (by rw [hGN]; exact ⟨hB.grown hg (by omega), blk_grown hb0 hg (by omega), blk_grown hb1 hg (by omega), hk0.grown_box hgb (by decide) hg, (kv f0 (by decide)), (kg f1 (by decide) hgb (by decide) hg), (kg f2 (by decide) hgb (by decide) hg), ⟨fun h => (h (.inr rfl)).elim, fun _ => by rw [upd_ne v _ (by decide)]; exact ⟨bb, A, n, c, x, es, hw1⟩⟩⟩)
              clear hb0 hb1 hk0 f0 f1 f2 f3 hK
              simpa [upd] using key
        case hendN =>
          intro v W L0 hall hGv
          rw [hGN] at hGv
          obtain ⟨hB, _, _, _, _, _, f2, f3⟩ := hGv
          have d2 := f2 (hall 2 (by decide))
          obtain ⟨b8, A8, n8, c8, x8, p8, hx8⟩ := f3.2 (hall 3 (by decide))
          rw [p8] at d2
          have BEL := Aside0.mk hB
          have XR := Aside0.mk hx8
          have P8 := Aside0.mk d2
          clear hall f2 f3 hB hx8 d2
          simp only [setAll, List.setIfInBounds_toArray, List.set_cons_zero, List.set_cons_succ, Nat.reduceAdd, p8]
          go_wp2
          refine bodyPost_ret (results_dyad rfl _ _ (w.heap.size + 1) _ rfl XR.out rfl) rfl ?_
          refine ⟨_, rfl, ?_, BEL.out.1⟩
          rw [HN.out, if_pos ⟨HOD.out, HCE.out⟩]
          exact P8.out
end Go.Proofs.YtgpjplelgffocaaDoor

namespace Go.Proofs.YtgpjplelgffocaaDoor
open Go.RowKit Go.Proofs.YtgpjplelgffocaaDoorW.PrintWords Limb
set_option linter.unusedVariables false
set_option linter.unusedSimpArgs false

theorem at_two {n : Int} (h : 1 < cexp n 0) : n % 4 = 0 := by
  have h0 : n ≠ 0 := by rintro rfl; rw [cexp_zero] at h; omega
  obtain ⟨k, e1, e2, e3⟩ := of_form (e := 0) h0
  have hk : ∃ j, k = j + 2 := ⟨k - 2, by omega⟩
  obtain ⟨j, rfl⟩ := hk
  have h1 : n.natAbs = cman n * 2 ^ j * 4 := by
    have := congrArg Int.natAbs e2
    rw [sgn_abs, Nat.pow_add, ← Nat.mul_assoc] at this
    exact this
  generalize cman n * 2 ^ j = q at h1
  omega
theorem at_exp {n : Int} (h : ¬ 1 < cexp n 0) : ∃ s : Nat, (s = 0 ∨ s = 1) ∧ cexp n 0 = (s : Int) ∧ n.natAbs = cman n * 2 ^ s := by
  by_cases h0 : n = 0
  · subst h0; exact ⟨0, .inl rfl, by rw [cexp_zero]; rfl, by rw [cman_zero]; rfl⟩
  · obtain ⟨k, e1, e2, e3⟩ := of_form (e := 0) h0
    refine ⟨k, by omega, by omega, ?_⟩
    have := congrArg Int.natAbs e2
    rw [sgn_abs] at this
    exact this
theorem cman_ne {n : Int} (h : n ≠ 0) : cman n ≠ 0 := fun h1 => h (cman_eq_zero.1 h1)
theorem limbs_len_pos {m : Nat} (h : m ≠ 0) : 0 < (limbs m).length := by rw [limbs_pos h]; exact Nat.succ_pos _
theorem limbs_zeroth {m x : Nat} (h0 : m ≠ 0) (h : (limbs m)[0]? = some x) : x = m % 2 ^ 64 := by
  rw [limbs_pos h0] at h
  exact (Option.some.inj h).symm

theorem i64_and3 (n : Int) : bits .and .i64 n 3 = n % 4 := by
  have h3 : (BitVec.ofInt 64 3).toNat = 2 ^ 2 - 1 := by decide
  have key : (BitVec.ofInt 64 n &&& BitVec.ofInt 64 3).toNat = (n % ((2 ^ 64 : Nat) : Int)).toNat % 2 ^ 2 := by
    rw [BitVec.toNat_and, BitVec.toNat_ofInt, h3, Nat.and_two_pow_sub_one_eq_mod]
  show IntKind.i64.wrap ((BitVec.ofInt 64 n &&& BitVec.ofInt 64 3).toNat : Nat) = n % 4
  rw [key, IntKind.wrap_i64]
  omega
theorem u64_wrap (n : Int) : IntKind.u64.wrap n = n % 18446744073709551616 := by simp [IntKind.wrap, IntKind.bits, IntKind.signed]
theorem by4_pos {n t : Int} {x s : Nat} (hx : x = cman n % 2 ^ 64) (h : n.natAbs = cman n * 2 ^ s) (hs : s = 0 ∨ s = 1) (hb : false = cneg n) (ht : t = (x : Int) * 2 ^ s) : bits .and .i64 (wrap64 (IntKind.u64.wrap t)) 3 = n % 4 := by
  have hn : 0 ≤ n := by
    have := of_decide_eq_false hb.symm
    omega
  rw [i64_and3, u64_wrap]
  unfold wrap64
  generalize cman n = m at hx h
  rcases hs with rfl | rfl
  · simp at ht h; omega
  · simp at ht h; omega
theorem by4_neg {n t : Int} {x s : Nat} (hx : x = cman n % 2 ^ 64) (h : n.natAbs = cman n * 2 ^ s) (hs : s = 0 ∨ s = 1) (hb : true = cneg n) (ht : t = (x : Int) * 2 ^ s) : bits .and .i64 (wrap64 (-bits .and .i64 (wrap64 (IntKind.u64.wrap t)) 3)) 3 = n % 4 := by
  have hn : n < 0 := of_decide_eq_true hb.symm
  rw [i64_and3, i64_and3, u64_wrap]
  unfold wrap64
  generalize cman n = m at hx h
  rcases hs with rfl | rfl
  · simp at ht h; omega
  · simp at ht h; omega

set_option maxRecDepth 100000 in
set_option maxHeartbeats 8000000 in
theorem by4_ok {v : Value} {n : Int} {w : World} (h : CDy w v n 0) (o : Ok n 0) (hT : TabAt 0 Lib.deBruijn64tab w) :
    Calls Tryd.prog 104 #[v] w fun en w' => en = .returned (.int .i64 (n % 4)) ∧ Below w.heap.size w w' := by
  obtain ⟨b0, A, n0, c, x0, rfl⟩ := h.ex
  have HCD := Aside0.mk h
  have HT := Aside0.mk hT
  have OO := Aside0.mk o
  clear h hT o
  go_enter Tryd.func104, Tryd.ntmps104
  have BEL : Aside0 (BelN w 1 (w.alloc (.cells #[.bool b0, .slice A n0 c, .int .i64 x0] 27))) := ⟨((BelN.zero w).alloc _).less (by decide)⟩
  have X0 : Aside0 ((w.alloc (.cells #[.bool b0, .slice A n0 c, .int .i64 x0] 27)).heap[w.heap.size]? = some (.cells #[.bool b0, .slice A n0 c, .int .i64 x0] 27 (0, 0))) := ⟨by have h := blk_new w (.cells #[.bool b0, .slice A n0 c, .int .i64 x0] 27); exact h⟩
  obtain ⟨q0, q0'⟩ := box_cell X0.out 0 rfl
  obtain ⟨q1, q1'⟩ := box_cell X0.out 1 rfl
  obtain ⟨q2, q2'⟩ := box_cell X0.out 2 rfl
  go_wp2_with fail
  clear q0 q0' q1 q1' q2 q2'
  go_at_call 72
  refine (one_ok (HCD.out.below BEL.out.1) OO.out (tab_below HT.out BEL.out.1)).mono ?_
  rintro en1 w1 ⟨v1, rfl, hr, hb⟩
  replace BEL := Aside0.mk (BEL.out.next hb)
  replace X0 := Aside0.mk (blk_below X0.out hb)
  have P1 := Aside0.mk hr
  obtain ⟨b1, A1, n1, c1, x1, rfl⟩ := hr.ex
  clear hr hb
  obtain ⟨eb, ex, -⟩ := CDy.parts P1.out.c
  have HXE := Aside0.mk ex
  have HBE := Aside0.mk eb
  clear eb ex
  go_wp2_with (((with_reducible refine gate_store (p := 1) rfl ?_); go_must (refine store_box 27 1 (.tmp 5) rfl rfl rfl (g := w.heap.size) (e := 27) (.agg #[.bool b1, .slice A1 n1 c1, .int .i64 x1]) ([.bool b1, .slice A1 n1 c1, .int .i64 x1]) rfl rfl rfl info_dyad ?b1 X0.out rfl ?_; (case b1 => intro q hq; simp at hq; rcases hq with rfl | rfl | rfl <;> rfl); intro wb hbx hgx; have HX := Aside0.mk hbx; have HG := Aside0.mk hgx; clear hbx hgx)); replace P1 := Aside0.mk (P1.out.grown_box X0.out (by decide) HG.out); replace BEL := Aside0.mk (BEL.out.grown HG.out (by omega)); replace X0 := HX; clear HG; obtain ⟨q3, q3'⟩ := box_cell X0.out 0 rfl; obtain ⟨q4, q4'⟩ := box_cell X0.out 1 rfl; obtain ⟨q5, q5'⟩ := box_cell X0.out 2 rfl)
  clear q3 q3' q4 q4' q5 q5'
  go_at_call 22
  refine (zero_ok P1.out.c OO.out).mono ?_
  rintro en2 w2 ⟨rfl, hb⟩
  replace BEL := Aside0.mk (BEL.out.next hb)
  replace X0 := Aside0.mk (blk_below X0.out hb)
  replace P1 := Aside0.mk (P1.out.below hb)
  clear hb
  by_cases hn0 : n = 0
  · have hd : decide (n = 0) = true := decide_eq_true hn0
    have HN0 := Aside0.mk hn0
    clear hn0
    obtain ⟨q6, q6'⟩ := box_cell X0.out 0 rfl
    obtain ⟨q7, q7'⟩ := box_cell X0.out 1 rfl
    obtain ⟨q8, q8'⟩ := box_cell X0.out 2 rfl
    go_wp2_with fail
    go_ret
    exact ⟨ret_int (by rw [HN0.out]; rfl), BEL.out.1⟩
  · have hd : decide (n = 0) = false := decide_eq_false hn0
    have HN0 := Aside0.mk hn0
    clear hn0
    by_cases hx1 : 1 < x1
    · have hd1 : decide (1 < x1) = true := decide_eq_true hx1
      have HX1 := Aside0.mk hx1
      obtain ⟨q6, q6'⟩ := box_cell X0.out 0 rfl
      obtain ⟨q7, q7'⟩ := box_cell X0.out 1 rfl
      obtain ⟨q8, q8'⟩ := box_cell X0.out 2 rfl
      go_wp2_with fail
      go_ret
      exact ⟨ret_int (by rw [at_two (by rw [← HXE.out]; exact HX1.out)]), BEL.out.1⟩
    · have hd1 : decide (1 < x1) = false := decide_eq_false hx1
      obtain ⟨s, hs, es, en⟩ := at_exp (n := n) (by rw [← HXE.out]; exact hx1)
      rw [← HXE.out] at es
      have HES := Aside0.mk en
      obtain ⟨-, -, hC1, hC2, -⟩ := CDy.parts P1.out.c
      have hp1 : 0 < n1 := by rw [← hC2]; exact limbs_len_pos (cman_ne HN0.out)
      obtain ⟨ad, x, hA, hx0, hcell⟩ := at_word hC1 hC2 0 hp1
      subst hA
      have hz0 : ad.add 0 = ad := by simp [Addr.add]
      rw [hz0] at hcell
      clear hz0
      have HXW := Aside0.mk (limbs_zeroth (cman_ne HN0.out) hx0)
      clear en hC1 hC2 hx0 hx1
      rcases hs with rfl | rfl
      · replace es : x1 = 0 := es
        subst es
        obtain ⟨q6, q6'⟩ := box_cell X0.out 0 rfl
        obtain ⟨q7, q7'⟩ := box_cell X0.out 1 rfl
        obtain ⟨q8, q8'⟩ := box_cell X0.out 2 rfl
        go_wp2_with fail
        go_quiet (fail)
        clear q6 q6' q7 q7' q8 q8'
        replace BEL := Aside0.mk (BEL.out.next (quiet_below ⟨nq, rfl⟩))
        replace X0 := Aside0.mk (blk_below X0.out (quiet_below ⟨nq, rfl⟩))
        replace P1 := Aside0.mk (P1.out.below (quiet_below ⟨nq, rfl⟩))
        cases b1
        case false =>
          obtain ⟨q9, q9'⟩ := box_cell X0.out 0 rfl
          obtain ⟨q10, q10'⟩ := box_cell X0.out 1 rfl
          obtain ⟨q11, q11'⟩ := box_cell X0.out 2 rfl
          go_wp2_with fail
          go_ret
          exact ⟨ret_int (by4_pos HXW.out HES.out (.inl rfl) HBE.out (by simp)), BEL.out.1⟩
        case true =>
          obtain ⟨q9, q9'⟩ := box_cell X0.out 0 rfl
          obtain ⟨q10, q10'⟩ := box_cell X0.out 1 rfl
          obtain ⟨q11, q11'⟩ := box_cell X0.out 2 rfl
          go_wp2_with fail
          go_ret
          exact ⟨ret_int (by4_neg HXW.out HES.out (.inl rfl) HBE.out (by simp)), BEL.out.1⟩
      · replace es : x1 = 1 := es
        subst es
        obtain ⟨q6, q6'⟩ := box_cell X0.out 0 rfl
        obtain ⟨q7, q7'⟩ := box_cell X0.out 1 rfl
        obtain ⟨q8, q8'⟩ := box_cell X0.out 2 rfl
        go_wp2_with fail
        go_quiet (fail)
        clear q6 q6' q7 q7' q8 q8'
        replace BEL := Aside0.mk (BEL.out.next (quiet_below ⟨nq, rfl⟩))
        replace X0 := Aside0.mk (blk_below X0.out (quiet_below ⟨nq, rfl⟩))
        replace P1 := Aside0.mk (P1.out.below (quiet_below ⟨nq, rfl⟩))
        cases b1
        case false =>
          obtain ⟨q9, q9'⟩ := box_cell X0.out 0 rfl
          obtain ⟨q10, q10'⟩ := box_cell X0.out 1 rfl
          obtain ⟨q11, q11'⟩ := box_cell X0.out 2 rfl
          go_wp2_with fail
          go_ret
          exact ⟨ret_int (by4_pos HXW.out HES.out (.inr rfl) HBE.out (by simp)), BEL.out.1⟩
        case true =>
          obtain ⟨q9, q9'⟩ := box_cell X0.out 0 rfl
          obtain ⟨q10, q10'⟩ := box_cell X0.out 1 rfl
          obtain ⟨q11, q11'⟩ := box_cell X0.out 2 rfl
          go_wp2_with fail
          go_ret
          exact ⟨ret_int (by4_neg HXW.out HES.out (.inr rfl) HBE.out (by simp)), BEL.out.1⟩
end Go.Proofs.YtgpjplelgffocaaDoor

namespace Go.Proofs.YtgpjplelgffocaaDoor
open Go.RowKit Go.Proofs.YtgpjplelgffocaaDoorW.PrintWords Limb
set_option linter.unusedVariables false
set_option linter.unusedSimpArgs false

theorem lt_blk {w : World} {g : Nat} {o : Obj} (h : w.heap[g]? = some o) : g < w.heap.size := by
  refine Classical.byContradiction fun hc => ?_
  rw [Array.getElem?_eq_none (by omega)] at h
  cases h
/-- A value that is told: z * 2^e, and whether it is told at all. -/
def PT (w : World) (b : Nat) (v : Value) (z e : Int) (s : Bool) : Prop :=
  ∃ bb A n c x, v = .agg #[.bool bb, .slice A n c, .int .i64 x, .bool s] ∧ PDy w b (.agg #[.bool bb, .slice A n c, .int .i64 x]) z e
section
variable {w w1 : World} {b b' g : Nat} {v : Value} {z e : Int} {s : Bool}
theorem PT.ex5 (h : PT w b v z e s) : ∃ bb A n c x, v = .agg #[.bool bb, .slice A n c, .int .i64 x, .bool s] := by
  obtain ⟨bb, A, n, c, x, rfl, _⟩ := h; exact ⟨_, _, _, _, _, rfl⟩
theorem PT.ex (h : PT w b v z e s) : ∃ bb A n c x b2, v = .agg #[.bool bb, .slice A n c, .int .i64 x, .bool b2] := by
  obtain ⟨bb, A, n, c, x, rfl, _⟩ := h; exact ⟨_, _, _, _, _, _, rfl⟩
theorem PT.below (h : PT w b v z e s) (hb : Below w.heap.size w w1) : PT w1 b v z e s := by
  obtain ⟨bb, A, n, c, x, rfl, h⟩ := h; exact ⟨_, _, _, _, _, rfl, h.below hb⟩
theorem PT.lower (h : PT w b v z e s) (hb : b' ≤ b) : PT w b' v z e s := by
  obtain ⟨bb, A, n, c, x, rfl, h⟩ := h; exact ⟨_, _, _, _, _, rfl, h.lower hb⟩
theorem PT.grown_box {t : TypeId} {cells : Array Value} (h : PT w b v z e s) (hb : w.heap[g]? = some (.cells cells t (0, 0))) (ht : 23 ≠ t) (hg : w.grownBy w1 (some g)) : PT w1 b v z e s := by
  obtain ⟨bb, A, n, c, x, rfl, h⟩ := h; exact ⟨_, _, _, _, _, rfl, h.grown_box hb ht hg⟩
theorem agg4_inj {a1 a2 a3 a4 b1 b2 b3 b4 : Value} (h : Value.agg #[a1, a2, a3, a4] = .agg #[b1, b2, b3, b4]) : a1 = b1 ∧ a2 = b2 ∧ a3 = b3 ∧ a4 = b4 := by
  injection h with h
  simp at h
  exact h
theorem PT.d {bb : Bool} {A : Option Addr} {n c : Nat} {x : Int} {s' : Bool} (h : PT w b (.agg #[.bool bb, .slice A n c, .int .i64 x, .bool s']) z e s) : PDy w b (.agg #[.bool bb, .slice A n c, .int .i64 x]) z e ∧ s' = s := by
  obtain ⟨bb', A', n', c', x', h1, h2⟩ := h
  obtain ⟨e1, e2, e3, e4⟩ := agg4_inj h1
  rw [e1, e2, e3]
  injection e4 with e4
  exact ⟨h2, e4⟩
theorem PT.of {bb : Bool} {A : Option Addr} {n c : Nat} {x : Int} (h : PDy w b (.agg #[.bool bb, .slice A n c, .int .i64 x]) z e) (s : Bool) : PT w b (.agg #[.bool bb, .slice A n c, .int .i64 x, .bool s]) z e s := ⟨_, _, _, _, _, rfl, h⟩
theorem PT.none (w : World) (b : Nat) (e : Int) : PT w b (.agg #[.bool false, .slice none 0 0, .int .i64 0, .bool false]) 0 e false := PT.of (PDy.zero w b e) false
/-- A place on the circle: k quarters, and what is left. -/
def PS (w : World) (b : Nat) (v : Value) (k z e : Int) : Prop :=
  ∃ bb A n c x, v = .agg #[.int .i64 k, .bool bb, .slice A n c, .int .i64 x] ∧ PDy w b (.agg #[.bool bb, .slice A n c, .int .i64 x]) z e
theorem PS.ex5 {k : Int} (h : PS w b v k z e) : ∃ bb A n c x, v = .agg #[.int .i64 k, .bool bb, .slice A n c, .int .i64 x] := by
  obtain ⟨bb, A, n, c, x, rfl, _⟩ := h; exact ⟨_, _, _, _, _, rfl⟩
theorem PS.below {k : Int} (h : PS w b v k z e) (hb : Below w.heap.size w w1) : PS w1 b v k z e := by
  obtain ⟨bb, A, n, c, x, rfl, h⟩ := h; exact ⟨_, _, _, _, _, rfl, h.below hb⟩
theorem PS.lower {k : Int} (h : PS w b v k z e) (hb : b' ≤ b) : PS w b' v k z e := by
  obtain ⟨bb, A, n, c, x, rfl, h⟩ := h; exact ⟨_, _, _, _, _, rfl, h.lower hb⟩
theorem PS.grown_box {k : Int} {t : TypeId} {cells : Array Value} (h : PS w b v k z e) (hb : w.heap[g]? = some (.cells cells t (0, 0))) (ht : 23 ≠ t) (hg : w.grownBy w1 (some g)) : PS w1 b v k z e := by
  obtain ⟨bb, A, n, c, x, rfl, h⟩ := h; exact ⟨_, _, _, _, _, rfl, h.grown_box hb ht hg⟩
theorem PS.d {k k' : Int} {bb : Bool} {A : Option Addr} {n c : Nat} {x : Int} (h : PS w b (.agg #[.int .i64 k', .bool bb, .slice A n c, .int .i64 x]) k z e) : PDy w b (.agg #[.bool bb, .slice A n c, .int .i64 x]) z e ∧ k' = k := by
  obtain ⟨bb', A', n', c', x', h1, h2⟩ := h
  obtain ⟨e1, e2, e3, e4⟩ := agg4_inj h1
  rw [e2, e3, e4]
  injection e1 with _ e1
  exact ⟨h2, e1⟩
theorem PS.of {k : Int} {bb : Bool} {A : Option Addr} {n c : Nat} {x : Int} (h : PDy w b (.agg #[.bool bb, .slice A n c, .int .i64 x]) z e) : PS w b (.agg #[.int .i64 k, .bool bb, .slice A n c, .int .i64 x]) k z e := ⟨_, _, _, _, _, rfl, h⟩
end
/-- The value of a struct's cells among results. -/
theorem Vals.box {P : Program} {tmps : Array Value} {w : World} {p : Tmp} {t : TypeId} {rs : List ResultVar} {vs : List Value} {n g : Nat} {cs : Array Value} (hany : (P.underlying t).any (fun d => match d with | .struct _ | .array _ _ => true | _ => false) = true) (hi : (P.info? t).map (·.size) = some n)
    (hp : tmps.getD p undef = .pointer (some ⟨g, 0, none⟩)) (hg : w.heap[g]? = some (.cells cs t (0, 0))) (hs : cs.size = n) (h : Vals P tmps w rs vs) : Vals P tmps w (.cell p t :: rs) (.agg cs :: vs) := by
  obtain ⟨d, hu, hd⟩ : ∃ d, P.underlying t = some d ∧ (match d with | .struct _ | .array _ _ => true | _ => false) = true := by
    cases hd : P.underlying t with
    | none => rw [hd] at hany; cases hany
    | some d => rw [hd] at hany; exact ⟨d, rfl, hany⟩
  refine .cell g t cs (0, 0) d hp hg hu ?_ (by rw [hs]; exact hi) h
  revert hu hd
  cases d <;> intro hu hd <;> first | rfl | cases hd
theorem any_told : (Tryd.prog.underlying 51).any (fun d => match d with | .struct _ | .array _ _ => true | _ => false) = true := by kernel_rfl
theorem any_spot : (Tryd.prog.underlying 82).any (fun d => match d with | .struct _ | .array _ _ => true | _ => false) = true := by kernel_rfl
theorem results_told {fn : Func} {p : Tmp} (h : fn.results = #[.cell p 51]) (tmps : Array Value) (w : World) (g : Nat) (cs : Array Value) (hp : tmps.getD p undef = .pointer (some ⟨g, 0, none⟩)) (hg : w.heap[g]? = some (.cells cs 51 (0, 0))) (hs : cs.size = 4) :
    (results fn tmps).run Tryd.prog w = .ok (.agg cs) w := results_single h (Vals.box any_told info_told hp hg hs .nil)
theorem results_spot {fn : Func} {p : Tmp} (h : fn.results = #[.cell p 82]) (tmps : Array Value) (w : World) (g : Nat) (cs : Array Value) (hp : tmps.getD p undef = .pointer (some ⟨g, 0, none⟩)) (hg : w.heap[g]? = some (.cells cs 82 (0, 0))) (hs : cs.size = 4) :
    (results fn tmps).run Tryd.prog w = .ok (.agg cs) w := results_single h (Vals.box any_spot info_spot hp hg hs .nil)

set_option maxRecDepth 100000 in
set_option maxHeartbeats 8000000 in
theorem number_any {w : World} {b : Nat} {v : Value} {z e : Int} (h : PDy w b v z e) :
    Calls Tryd.prog 67 #[v] w fun en w' => ∃ v', en = .returned v' ∧ PT w' b v' z e true ∧ Below w.heap.size w w' := by
  obtain ⟨b0, A, n, c, x0, rfl⟩ := h.ex
  have P0 := Aside0.mk (h.below (below_alloc (below_alloc (Below.refl _ _) (.cells #[.bool b0, .slice A n c, .int .i64 x0] 27)) (.cells #[.bool false, .slice none 0 0, .int .i64 0, .bool false] 51)))
  clear h
  go_enter Tryd.func67, Tryd.ntmps67
  have BEL : Aside0 (BelN w 2 ((w.alloc (.cells #[.bool b0, .slice A n c, .int .i64 x0] 27)).alloc (.cells #[.bool false, .slice none 0 0, .int .i64 0, .bool false] 51))) := ⟨(((BelN.zero w).alloc _).alloc _).less (by decide)⟩
  have X0 : Aside0 (((w.alloc (.cells #[.bool b0, .slice A n c, .int .i64 x0] 27)).alloc (.cells #[.bool false, .slice none 0 0, .int .i64 0, .bool false] 51)).heap[w.heap.size]? = some (.cells #[.bool b0, .slice A n c, .int .i64 x0] 27 (0, 0))) := ⟨by have h := blk_new w (.cells #[.bool b0, .slice A n c, .int .i64 x0] 27); exact blk_alloc (h) _⟩
  have XR : Aside0 (((w.alloc (.cells #[.bool b0, .slice A n c, .int .i64 x0] 27)).alloc (.cells #[.bool false, .slice none 0 0, .int .i64 0, .bool false] 51)).heap[w.heap.size + 1]? = some (.cells #[.bool false, .slice none 0 0, .int .i64 0, .bool false] 51 (0, 0))) := ⟨by have h := blk_new (w.alloc (.cells #[.bool b0, .slice A n c, .int .i64 x0] 27)) (.cells #[.bool false, .slice none 0 0, .int .i64 0, .bool false] 51); rw [size_alloc'] at h; exact h⟩
  obtain ⟨q0, q0'⟩ := box_cell X0.out 0 rfl
  obtain ⟨q1, q1'⟩ := box_cell X0.out 1 rfl
  obtain ⟨q2, q2'⟩ := box_cell X0.out 2 rfl
  go_wp2_with (clear q0 q0' q1 q1' q2 q2'; ((with_reducible refine gate_store (p := 2) rfl ?_); go_must (refine store_box 51 2 (.tmp 4) rfl rfl rfl (g := w.heap.size + 1) (e := 51) (.agg #[.bool b0, .slice A n c, .int .i64 x0, .bool true]) ([.bool b0, .slice A n c, .int .i64 x0, .bool true]) rfl rfl rfl info_told ?b1 XR.out rfl ?_; (case b1 => intro q hq; simp at hq; rcases hq with rfl | rfl | rfl | rfl <;> rfl); intro wb hbx hgx; have HX := Aside0.mk hbx; have HG := Aside0.mk hgx; clear hbx hgx)); replace P0 := Aside0.mk (P0.out.grown_box XR.out (by decide) HG.out); replace BEL := Aside0.mk (BEL.out.grown HG.out (by omega)); replace X0 := Aside0.mk (blk_grown X0.out HG.out (by omega)); replace XR := HX; clear HG)
  refine bodyPost_ret (results_told rfl _ _ (w.heap.size + 1) _ rfl XR.out rfl) rfl ?_
  exact ⟨_, rfl, PT.of P0.out true, BEL.out.1⟩

set_option maxRecDepth 100000 in
set_option maxHeartbeats 8000000 in
theorem whole_any (n : Int) (w : World) (h1 : -9223372036854775808 ≤ n) (h2 : n < 9223372036854775808) (hT : TabAt 0 Lib.deBruijn64tab w) :
    Calls Tryd.prog 46 #[.int .i64 n] w fun en w' => ∃ v', en = .returned v' ∧ PT w' w.heap.size v' n 0 true ∧ Below w.heap.size w w' := by
  have H1 := Aside0.mk h1
  have H2 := Aside0.mk h2
  have HT := Aside0.mk hT
  clear h1 h2 hT
  go_enter Tryd.func46, Tryd.ntmps46
  have BEL : Aside0 (BelN w 1 (w.alloc (.cells #[.bool false, .slice none 0 0, .int .i64 0, .bool false] 51))) := ⟨((BelN.zero w).alloc _).less (by decide)⟩
  have XR : Aside0 ((w.alloc (.cells #[.bool false, .slice none 0 0, .int .i64 0, .bool false] 51)).heap[w.heap.size]? = some (.cells #[.bool false, .slice none 0 0, .int .i64 0, .bool false] 51 (0, 0))) := ⟨by have h := blk_new w (.cells #[.bool false, .slice none 0 0, .int .i64 0, .bool false] 51); exact h⟩
  go_wp2_with fail
  go_at_call 68
  refine (pint_dy n _ H1.out H2.out (tab_below HT.out BEL.out.1)).mono ?_
  rintro en1 w1 ⟨v1, rfl, hr, hb⟩
  replace BEL := Aside0.mk (BEL.out.next hb)
  replace XR := Aside0.mk (blk_below XR.out hb)
  have P1 := Aside0.mk hr
  obtain ⟨b1, A1, n1, c1, x1, rfl⟩ := hr.ex
  clear hr hb
  go_wp2_with fail
  go_at_call 67
  refine (number_any P1.out).mono ?_
  rintro en2 w2 ⟨v2, rfl, hr, hb⟩
  replace BEL := Aside0.mk (BEL.out.next hb)
  replace XR := Aside0.mk (blk_below XR.out hb)
  replace P1 := Aside0.mk (P1.out.below hb)
  have P2 := Aside0.mk hr
  obtain ⟨b2, A2, n2, c2, x2, rfl⟩ := hr.ex5
  clear hr hb
  go_wp2_with (((with_reducible refine gate_store (p := 2) rfl ?_); go_must (refine store_box 51 2 (.tmp 5) rfl rfl rfl (g := w.heap.size) (e := 51) (.agg #[.bool b2, .slice A2 n2 c2, .int .i64 x2, .bool true]) ([.bool b2, .slice A2 n2 c2, .int .i64 x2, .bool true]) rfl rfl rfl info_told ?b1 XR.out rfl ?_; (case b1 => intro q hq; simp at hq; rcases hq with rfl | rfl | rfl | rfl <;> rfl); intro wb hbx hgx; have HX := Aside0.mk hbx; have HG := Aside0.mk hgx; clear hbx hgx)); replace P1 := Aside0.mk (P1.out.grown_box XR.out (by decide) HG.out); replace P2 := Aside0.mk (P2.out.grown_box XR.out (by decide) HG.out); replace BEL := Aside0.mk (BEL.out.grown HG.out (by omega)); replace XR := HX; clear HG)
  refine bodyPost_ret (results_told rfl _ _ (w.heap.size) _ rfl XR.out rfl) rfl ?_
  exact ⟨_, rfl, P2.out.lower (by rw [size_alloc']; omega), BEL.out.1⟩

set_option maxRecDepth 100000 in
set_option maxHeartbeats 8000000 in
theorem part_any (n k : Int) (w : World) (h1 : n.natAbs < 2 ^ 62) (h2 : 0 ≤ k) (h3 : k ≤ 60000) (hT : TabAt 0 Lib.deBruijn64tab w) :
    Calls Tryd.prog 47 #[.int .i64 n, .int .i64 k] w fun en w' => ∃ v', en = .returned v' ∧ PT w' w.heap.size v' n (0 + -k) true ∧ Below w.heap.size w w' := by
  have O1 := Aside0.mk (Ok.of (e := 0) 62 h1 (by decide) (by decide) (by decide))
  have H1 := Aside0.mk (show -9223372036854775808 ≤ n by omega)
  have H2 := Aside0.mk (show n < 9223372036854775808 by omega)
  have HK := Aside0.mk (And.intro h2 h3)
  have hw : wrap64 (-k) = -k := by unfold wrap64; omega
  have HT := Aside0.mk hT
  clear h1 h2 h3 hT
  go_enter Tryd.func47, Tryd.ntmps47
  have BEL : Aside0 (BelN w 1 (w.alloc (.cells #[.bool false, .slice none 0 0, .int .i64 0, .bool false] 51))) := ⟨((BelN.zero w).alloc _).less (by decide)⟩
  have XR : Aside0 ((w.alloc (.cells #[.bool false, .slice none 0 0, .int .i64 0, .bool false] 51)).heap[w.heap.size]? = some (.cells #[.bool false, .slice none 0 0, .int .i64 0, .bool false] 51 (0, 0))) := ⟨by have h := blk_new w (.cells #[.bool false, .slice none 0 0, .int .i64 0, .bool false] 51); exact h⟩
  go_wp2_with fail
  go_at_call 68
  refine (pint_dy n _ H1.out H2.out (tab_below HT.out BEL.out.1)).mono ?_
  rintro en1 w1 ⟨v1, rfl, hr, hb⟩
  replace BEL := Aside0.mk (BEL.out.next hb)
  replace XR := Aside0.mk (blk_below XR.out hb)
  have P1 := Aside0.mk hr
  obtain ⟨b1, A1, n1, c1, x1, rfl⟩ := hr.ex
  clear hr hb
  go_wp2_with fail
  go_at_call 69
  refine (shift_ok (-k) P1.out.c O1.out (by have := HK.out; omega) (by have := HK.out; omega) (tab_below HT.out BEL.out.1)).mono ?_
  have BL2 := BEL
  rintro en2 w2 ⟨v2, rfl, hr, hb⟩
  replace BEL := Aside0.mk (BEL.out.next hb)
  replace XR := Aside0.mk (blk_below XR.out hb)
  replace P1 := Aside0.mk (P1.out.below hb)
  have P2 := Aside0.mk hr
  obtain ⟨b2, A2, n2, c2, x2, rfl⟩ := hr.ex
  clear hr hb
  go_wp2_with fail
  go_at_call 67
  refine (number_any P2.out).mono ?_
  rintro en3 w3 ⟨v3, rfl, hr, hb⟩
  replace BEL := Aside0.mk (BEL.out.next hb)
  replace XR := Aside0.mk (blk_below XR.out hb)
  replace P1 := Aside0.mk (P1.out.below hb)
  replace P2 := Aside0.mk (P2.out.below hb)
  have P3 := Aside0.mk hr
  obtain ⟨b3, A3, n3, c3, x3, rfl⟩ := hr.ex5
  clear hr hb
  go_wp2_with (((with_reducible refine gate_store (p := 4) rfl ?_); go_must (refine store_box 51 4 (.tmp 10) rfl rfl rfl (g := w.heap.size) (e := 51) (.agg #[.bool b3, .slice A3 n3 c3, .int .i64 x3, .bool true]) ([.bool b3, .slice A3 n3 c3, .int .i64 x3, .bool true]) rfl rfl rfl info_told ?b1 XR.out rfl ?_; (case b1 => intro q hq; simp at hq; rcases hq with rfl | rfl | rfl | rfl <;> rfl); intro wb hbx hgx; have HX := Aside0.mk hbx; have HG := Aside0.mk hgx; clear hbx hgx)); replace P1 := Aside0.mk (P1.out.grown_box XR.out (by decide) HG.out); replace P2 := Aside0.mk (P2.out.grown_box XR.out (by decide) HG.out); replace P3 := Aside0.mk (P3.out.grown_box XR.out (by decide) HG.out); replace BEL := Aside0.mk (BEL.out.grown HG.out (by omega)); replace XR := HX; clear HG)
  refine bodyPost_ret (results_told rfl _ _ (w.heap.size) _ rfl XR.out rfl) rfl ?_
  exact ⟨_, rfl, P3.out.lower (Nat.le_trans (Nat.le_add_right _ _) BL2.out.2), BEL.out.1⟩

set_option maxRecDepth 100000 in
set_option maxHeartbeats 8000000 in
theorem is_any {v : Value} {z : Int} {w : World} (n : Int) (h : CDy w v z (-1074)) (o : Ok z (-1074)) (hn : n.natAbs < 2 ^ 62) (hT : TabAt 0 Lib.deBruijn64tab w) :
    Calls Tryd.prog 76 #[v, .int .i64 n] w fun en w' => en = .returned (.bool (decide (z = n * 2 ^ 1074))) ∧ Below w.heap.size w w' := by
  obtain ⟨b0, A, n0, c, x0, rfl⟩ := h.ex
  have HCD := Aside0.mk h
  have OO := Aside0.mk o
  have O2 := Aside0.mk (Ok.of (e := -1074) _ (sm_mul (k := 1074) hn) (by decide) (by decide) (by decide))
  have H1 := Aside0.mk (show -9223372036854775808 ≤ n by omega)
  have H2 := Aside0.mk (show n < 9223372036854775808 by omega)
  have HT := Aside0.mk hT
  obtain ⟨u, hu⟩ : ∃ u : Int, u = n * 2 ^ 1074 := ⟨_, rfl⟩
  have HP := Aside0.mk (fun (v : Value) (b : Nat) (W : World) (h : PDy W b v n 0) => (by
    have q := PDy.scale (e := -1074) 1074 h
    rw [← hu] at q; exact q : PDy W b v u (-1074)))
  have HC : Aside0 ((cmpZ z u == 0) = decide (z = u)) := ⟨cmpZ_zero _ _⟩
  rw [← hu] at O2 ⊢
  clear h o hn hT hu
  go_enter Tryd.func76, Tryd.ntmps76
  go_upto_region 1 with fail
  have BEL : Aside0 (BelN w 1 (w.alloc (.cells #[.bool b0, .slice A n0 c, .int .i64 x0] 27))) := ⟨((BelN.zero w).alloc _).less (by decide)⟩
  have X0 : Aside0 ((w.alloc (.cells #[.bool b0, .slice A n0 c, .int .i64 x0] 27)).heap[w.heap.size]? = some (.cells #[.bool b0, .slice A n0 c, .int .i64 x0] 27 (0, 0))) := ⟨by have h := blk_new w (.cells #[.bool b0, .slice A n0 c, .int .i64 x0] 27); exact h⟩
  obtain ⟨GM, hGM⟩ : ∃ G : (Nat → Prop) → (Nat → Value) → World → Prop, G = fun L v W => BelN w 1 W ∧ W.heap[w.heap.size]? = some (.cells #[.bool b0, .slice A n0 c, .int .i64 x0] 27 (0, 0)) ∧ (L 0 → (v 0) = .agg #[.bool b0, .slice A n0 c, .int .i64 x0]) ∧ (L 1 → (v 1) = .int .i64 n) ∧ (L 2 → PDy W w.heap.size (v 2) u (-1074)) ∧ (L 3 → (v 3) = .int .i64 (cmpZ z u)) ∧ (L 4 → (v 4) = .bool (decide (z = u))) ∧ (L 5 → (v 5) = .bool (decide (z = u))) := ⟨_, rfl⟩
  refine wp_region_slotsV [5, 6, 7, 8, 9, 4] (by kernel_rfl) (by kernel_rfl) (G := GM) ?h0M ?hstepM ?hendM
  case h0M =>
    intro v; rw [hGM]
    exact ⟨BEL.out.next (below_drew (Below.refl _ _)), blk_drew X0.out, fun h => h.elim, fun h => h.elim, fun h => h.elim, fun h => h.elim, fun h => h.elim, fun h => h.elim⟩
  case hstepM =>
    intro k o ho v W L hGv hnk haft hcl K hK
    rw [hGM] at hGv
    obtain ⟨hB, hb0, f0, f1, f2, f3, f4, f5⟩ := hGv
    rcases k with _ | _ | _ | _ | _ | _ | k
    all_goals first
      | (cases ho; done)
      | (obtain rfl := (Option.some.inj ho).symm
         clear ho
         rw [if_pos (by rfl)]
         simp only [setAll, List.setIfInBounds_toArray, List.set_cons_zero, List.set_cons_succ, List.set_nil, List.getElem_toArray, List.getElem_cons_zero, List.getElem_cons_succ, Nat.reduceAdd] at haft hK ⊢)
    case zero =>
      have cc0 := (box_cell (v := .bool b0) hb0 0 rfl).1
      have cc1 := (box_cell (v := .slice A n0 c) hb0 1 rfl).1
      have cc2 := (box_cell (v := .int .i64 x0) hb0 2 rfl).1
      have hb := Below.refl W.heap.size W
      have key := hK.out (.agg #[.bool b0, .slice A n0 c, .int .i64 x0]) W (by rw [hGM]; exact ⟨hB.next hb, blk_below hb0 hb, fun _ => by rw [upd_eq], (kv f1 (by decide)), (kd f2 (by decide) hb), (kv f3 (by decide)), (kv f4 (by decide)), (kv f5 (by decide))⟩)
      clear hb0 f0 f1 f2 f3 f4 f5 hb hK
      go_simp
      simpa [upd] using key
    case succ.zero =>
      have hb := Below.refl W.heap.size W
      have key := hK.out (.int .i64 n) W (by rw [hGM]; exact ⟨hB.next hb, blk_below hb0 hb, (kv f0 (by decide)), fun _ => by rw [upd_eq], (kd f2 (by decide) hb), (kv f3 (by decide)), (kv f4 (by decide)), (kv f5 (by decide))⟩)
      clear hb0 f0 f1 f2 f3 f4 f5 hb hK
      go_simp
      simpa [upd] using key
    case succ.succ.zero =>
      have d1 := f1 (haft { on := 1, ground := .data } (by simp) rfl)
      have D1 := d1
      have HALL := Aside0.mk (And.intro hK (And.intro hB (And.intro hb0 ( And.intro f0 ( And.intro f1 ( And.intro f2 ( And.intro f3 ( And.intro f4 ( And.intro f5 (True.intro))))))))))
      clear hK hb0 f0 f1 f2 f3 f4 f5
      go_simp
      go_at_call 68
      refine (pint_dy n _ H1.out H2.out (tab_below HT.out hB.1)).mono ?_
      rintro en w4 ⟨v1, rfl, hr, hb⟩
      obtain ⟨hK, hB, hb0, f0, f1, f2, f3, f4, f5, _⟩ := HALL.out
      have key := hK.out (v1) w4 (by rw [hGM]; exact ⟨hB.next hb, blk_below hb0 hb, (kv f0 (by decide)), (kv f1 (by decide)), fun _ => by rw [upd_eq]; exact (HP.out _ _ _ hr).lower (Nat.le_trans (Nat.le_add_right _ _) hB.2), (kv f3 (by decide)), (kv f4 (by decide)), (kv f5 (by decide))⟩)
      clear hb0 f0 f1 f2 f3 f4 f5 hK HALL
      simpa [upd, D1] using key
    case succ.succ.succ.zero =>
      have d0 := f0 (haft { on := 0, ground := .data } (by simp) rfl)
      have D0 := d0
      have d2 := f2 (haft { on := 2, ground := .data } (by simp) rfl)
      have D2 := d2
      have HALL := Aside0.mk (And.intro hK (And.intro hB (And.intro hb0 ( And.intro f0 ( And.intro f1 ( And.intro f2 ( And.intro f3 ( And.intro f4 ( And.intro f5 (True.intro))))))))))
      clear hK hb0 f0 f1 f2 f3 f4 f5
      go_simp
      go_at_call 48
      refine (cmp_ok (HCD.out.below hB.1) d2.c OO.out O2.out (tab_below HT.out hB.1)).mono ?_
      rintro en w4 ⟨rfl, hb⟩
      obtain ⟨hK, hB, hb0, f0, f1, f2, f3, f4, f5, _⟩ := HALL.out
      have key := hK.out (.int .i64 (cmpZ z u)) w4 (by rw [hGM]; exact ⟨hB.next hb, blk_below hb0 hb, (kv f0 (by decide)), (kv f1 (by decide)), (kd f2 (by decide) hb), fun _ => by rw [upd_eq], (kv f4 (by decide)), (kv f5 (by decide))⟩)
      clear hb0 f0 f1 f2 f3 f4 f5 hK HALL
      simpa [upd, D0] using key
    case succ.succ.succ.succ.zero =>
      have d3 := f3 (haft { on := 3, ground := .data } (by simp) rfl)
      have D3 := d3
      have hcz := HC.out
      have hb := Below.refl W.heap.size W
      have key := hK.out (.bool (decide (z = u))) W (by rw [hGM]; exact ⟨hB.next hb, blk_below hb0 hb, (kv f0 (by decide)), (kv f1 (by decide)), (kd f2 (by decide) hb), (kv f3 (by decide)), fun _ => by rw [upd_eq], (kv f5 (by decide))⟩)
      clear hb0 f0 f1 f2 f3 f4 f5 hb hK
      go_simp
      simpa [upd, D3] using key
    case succ.succ.succ.succ.succ.zero =>
      have d4 := f4 (haft { on := 4, ground := .data } (by simp) rfl)
      have D4 := d4
      have hb := Below.refl W.heap.size W
      have key := hK.out (.bool (decide (z = u))) W (by rw [hGM]; exact ⟨hB.next hb, blk_below hb0 hb, (kv f0 (by decide)), (kv f1 (by decide)), (kd f2 (by decide) hb), (kv f3 (by decide)), (kv f4 (by decide)), fun _ => by rw [upd_eq]⟩)
      clear hb0 f0 f1 f2 f3 f4 f5 hb hK
      go_simp
      simpa [upd, D4] using key
  case hendM =>
    intro v W L0 hall hGv
    rw [hGM] at hGv
    obtain ⟨hB, hb0, f0, f1, f2, f3, f4, f5⟩ := hGv
    have d5 := f5 (hall 5 (by decide))
    have BEL := Aside0.mk hB
    clear hall f0 f1 f2 f3 f4 f5 hB hb0
    simp only [setAll, List.setIfInBounds_toArray, List.set_cons_zero, List.set_cons_succ, Nat.reduceAdd, d5]
    go_wp2
    go_ret
    exact ⟨rfl, BEL.out.1⟩

set_option maxRecDepth 100000 in
set_option maxHeartbeats 8000000 in
theorem is_fn (f : Nat) (hf : f < 256) (w : World) :
    Calls Tryd.prog 30 #[.int .u8 f] w fun en w' => en = .returned (.bool (decide (1 ≤ f ∧ f ≤ 30))) ∧ Below w.heap.size w w' := by
  have hb0 := Aside0.mk (Below.refl w.heap.size w)
  by_cases h1 : 1 ≤ f
  · by_cases h2 : f ≤ 30
    · have d1 : decide ((1 : Int) ≤ f) = true := decide_eq_true (by omega)
      have d2 : decide ((f : Int) ≤ 30) = true := decide_eq_true (by omega)
      go_enter Tryd.func30, Tryd.ntmps30
      go_wp2
      go_ret
      exact ⟨ret_bool (decide_eq_true ⟨h1, h2⟩).symm, hb0.out⟩
    · have d1 : decide ((1 : Int) ≤ f) = true := decide_eq_true (by omega)
      have d2 : decide ((f : Int) ≤ 30) = false := decide_eq_false (by omega)
      go_enter Tryd.func30, Tryd.ntmps30
      go_wp2
      go_ret
      exact ⟨ret_bool (decide_eq_false (fun h => h2 h.2)).symm, hb0.out⟩
  · have d1 : decide ((1 : Int) ≤ f) = false := decide_eq_false (by omega)
    go_enter Tryd.func30, Tryd.ntmps30
    go_wp2
    go_ret
    exact ⟨ret_bool (decide_eq_false (fun h => h1 h.1)).symm, hb0.out⟩
end Go.Proofs.YtgpjplelgffocaaDoor

namespace Go.Proofs.YtgpjplelgffocaaDoor
open Go.RowKit Go.Proofs.YtgpjplelgffocaaDoorW.PrintWords Limb
set_option linter.unusedVariables false
set_option linter.unusedSimpArgs false

theorem nearF_small {z : Int} {k n : Nat} (hz : z.natAbs < 2 ^ n) (hk : k + 1 ≤ n) : (nearF z k).natAbs < 2 ^ (n + 3) := by
  have h1 : ((2 : Int) ^ k).natAbs < 2 ^ n := sm_le (sm_pow k) hk
  have h2 := sm_div (k := k + 1) (sm_add hz h1)
  have h3 : (2 : Nat) ^ (n + 3) = 2 ^ (n + 1 + 1) * 2 := rfl
  have h4 := Nat.two_pow_pos (n + 1 + 1)
  unfold nearF
  generalize (z + 2 ^ k) / 2 ^ (k + 1) = m at *
  split <;> omega
theorem fits_lo {z : Int} {e : Int} (he : -2000 ≤ e) : -32768 ≤ cexp z e := by
  by_cases h0 : z = 0
  · subst h0; rw [cexp_zero]; decide
  · obtain ⟨k, h1, _⟩ := of_form (e := e) h0
    omega
theorem fits_hi {z : Int} {e : Int} {n : Nat} (hz : z.natAbs < 2 ^ n) (he : e ≤ 2000) (hn : n ≤ 30000) : cexp z e ≤ 32768 := by
  by_cases h0 : z = 0
  · subst h0; rw [cexp_zero]; decide
  · obtain ⟨k, h1, _, h3⟩ := of_form (e := e) h0
    have h4 := tz_lt_bl (show z.natAbs ≠ 0 by omega)
    have h5 := bl_le_iff.2 hz
    omega

set_option maxRecDepth 100000 in
set_option maxHeartbeats 8000000 in
theorem turns_ok {v : Value} {z : Int} {w : World} (h : CDy w v z (-1074)) (hz : z.natAbs < 2 ^ 2098) (hT : TabAt 0 Lib.deBruijn64tab w) :
    Calls Tryd.prog 96 #[v] w fun en w' => ∃ v', en = .returned (.tuple #[.int .i64 (nearF z 1072 % 4), v', .int .i64 0]) ∧ PDy w' w.heap.size v' (z - nearF z 1072 * 2 ^ 1073) (-1074) ∧ Below w.heap.size w w' := by
  obtain ⟨b0, A, n0, c, x0, rfl⟩ := h.ex
  have O1 := Aside0.mk (Ok.of (e := -1074) _ hz (by decide) (by decide) (by decide))
  have F1 := Aside0.mk (And.intro (fits_lo (z := z) (e := -1074) (by decide)) (fits_hi (e := -1074) hz (by decide) (by decide)))
  have HZ := Aside0.mk (sm_le (m := 2200) hz (by decide))
  have hs := nearF_small (k := 1072) hz (by decide)
  obtain ⟨n, hn⟩ : ∃ n, n = nearF z 1072 := ⟨_, rfl⟩
  rw [← hn] at hs ⊢
  have ON := Aside0.mk (Ok.of (e := 0) _ hs (by decide) (by decide) (by decide))
  have hns := sm_mul (k := 1073) hs
  have O2 := Aside0.mk (Ok.of (e := -1074) _ hns (by decide) (by decide) (by decide))
  have hrs := sm_sub (sm_le (m := 2098 + 3 + 1073) hz (by decide)) hns
  have OR := Aside0.mk (Ok.of (e := -1074) _ hrs (by decide) (by decide) (by decide))
  have FR := Aside0.mk (And.intro (fits_lo (z := z - n * 2 ^ 1073) (e := -1074) (by decide)) (fits_hi (e := -1074) hrs (by decide) (by decide)))
  have QN := Aside0.mk (fun (v : Value) (W : World) (hc : CDy W v z (-1074 + 1)) (ht : TabAt 0 Lib.deBruijn64tab W) => (by
    have q := near_ok (k := 1072) hc HZ.out (by decide) ht
    rw [← hn] at q; exact q : Calls Tryd.prog 103 #[v] W fun en w' => ∃ v', en = .returned v' ∧ PDy w' W.heap.size v' n 0 ∧ Below W.heap.size W w'))
  have QS := Aside0.mk (fun (v : Value) (b : Nat) (W : World) (hc : PDy W b v n (0 + -1)) => (PDy.scale (e := -1074) 1073 hc : PDy W b v (n * 2 ^ 1073) (-1074)))
  have HCD := Aside0.mk h
  have HT := Aside0.mk hT
  have h1073 : Aside0 ((2 : Int) ^ 1073 = 2 ^ 1073) := ⟨rfl⟩
  clear h hz hT hs hn hns hrs HZ
  generalize (2 : Int) ^ 1073 = M at *
  go_enter Tryd.func96, Tryd.ntmps96
  have BEL : Aside0 (BelN w 2 ((w.alloc (.cells #[.bool b0, .slice A n0 c, .int .i64 x0] 27)).alloc (.cells #[.bool false, .slice none 0 0, .int .i64 0] 27))) := ⟨(((BelN.zero w).alloc _).alloc _).less (by decide)⟩
  have X0 : Aside0 (((w.alloc (.cells #[.bool b0, .slice A n0 c, .int .i64 x0] 27)).alloc (.cells #[.bool false, .slice none 0 0, .int .i64 0] 27)).heap[w.heap.size]? = some (.cells #[.bool b0, .slice A n0 c, .int .i64 x0] 27 (0, 0))) := ⟨by have h := blk_new w (.cells #[.bool b0, .slice A n0 c, .int .i64 x0] 27); exact blk_alloc (h) _⟩
  have XR : Aside0 (((w.alloc (.cells #[.bool b0, .slice A n0 c, .int .i64 x0] 27)).alloc (.cells #[.bool false, .slice none 0 0, .int .i64 0] 27)).heap[w.heap.size + 1]? = some (.cells #[.bool false, .slice none 0 0, .int .i64 0] 27 (0, 0))) := ⟨by have h := blk_new (w.alloc (.cells #[.bool b0, .slice A n0 c, .int .i64 x0] 27)) (.cells #[.bool false, .slice none 0 0, .int .i64 0] 27); rw [size_alloc'] at h; exact h⟩
  obtain ⟨q0, q0'⟩ := box_cell X0.out 0 rfl
  obtain ⟨q1, q1'⟩ := box_cell X0.out 1 rfl
  obtain ⟨q2, q2'⟩ := box_cell X0.out 2 rfl
  go_wp2_with fail
  clear q0 q0' q1 q1' q2 q2'
  go_at_call 102
  refine (fits_ok (HCD.out.below BEL.out.1) O1.out F1.out.1 F1.out.2).mono ?_
  rintro en1 w1 ⟨rfl, hb⟩
  replace BEL := Aside0.mk (BEL.out.next hb)
  replace X0 := Aside0.mk (blk_below X0.out hb)
  replace XR := Aside0.mk (blk_below XR.out hb)
  clear hb
  obtain ⟨q3, q3'⟩ := box_cell X0.out 0 rfl
  obtain ⟨q4, q4'⟩ := box_cell X0.out 1 rfl
  obtain ⟨q5, q5'⟩ := box_cell X0.out 2 rfl
  go_wp2_with fail
  clear q3 q3' q4 q4' q5 q5'
  go_at_call 72
  refine (one_ok (HCD.out.below BEL.out.1) O1.out (tab_below HT.out BEL.out.1)).mono ?_
  have HLO1 := Aside0.mk BEL.out.2
  rintro en2 w2 ⟨v2, rfl, hr, hb⟩
  replace BEL := Aside0.mk (BEL.out.next hb)
  replace X0 := Aside0.mk (blk_below X0.out hb)
  replace XR := Aside0.mk (blk_below XR.out hb)
  have P1 := Aside0.mk hr
  obtain ⟨b2, A2, n2, c2, x2, rfl⟩ := hr.ex
  clear hr hb
  go_wp2_with (((with_reducible refine gate_store (p := 1) rfl ?_); go_must (refine store_box 27 1 (.tmp 12) rfl rfl rfl (g := w.heap.size) (e := 27) (.agg #[.bool b2, .slice A2 n2 c2, .int .i64 x2]) ([.bool b2, .slice A2 n2 c2, .int .i64 x2]) rfl rfl rfl info_dyad ?b1 X0.out rfl ?_; (case b1 => intro q hq; simp at hq; rcases hq with rfl | rfl | rfl <;> rfl); intro wb hbx hgx; have HX := Aside0.mk hbx; have HG := Aside0.mk hgx; clear hbx hgx)); replace P1 := Aside0.mk (P1.out.grown_box X0.out (by decide) HG.out); replace BEL := Aside0.mk (BEL.out.grown HG.out (by omega)); replace XR := Aside0.mk (blk_grown XR.out HG.out (by omega)); replace X0 := HX; clear HG; obtain ⟨q6, q6'⟩ := box_cell X0.out 0 rfl; obtain ⟨q7, q7'⟩ := box_cell X0.out 1 rfl; obtain ⟨q8, q8'⟩ := box_cell X0.out 2 rfl)
  clear q6 q6' q7 q7' q8 q8'
  go_at_call 69
  refine (shift_ok 1 P1.out.c O1.out (by decide) (by decide) (tab_below HT.out BEL.out.1)).mono ?_
  rintro en3 w3 ⟨v3, rfl, hr, hb⟩
  replace BEL := Aside0.mk (BEL.out.next hb)
  replace X0 := Aside0.mk (blk_below X0.out hb)
  replace XR := Aside0.mk (blk_below XR.out hb)
  replace P1 := Aside0.mk (P1.out.below hb)
  have P2 := Aside0.mk hr
  obtain ⟨b3, A3, n3, c3, x3, rfl⟩ := hr.ex
  clear hr hb
  go_wp2_with fail
  go_at_call 103
  refine (QN.out _ _ P2.out.c (tab_below HT.out BEL.out.1)).mono ?_
  have HLO3 := Aside0.mk BEL.out.2
  rintro en4 w4 ⟨v4, rfl, hr, hb⟩
  replace BEL := Aside0.mk (BEL.out.next hb)
  replace X0 := Aside0.mk (blk_below X0.out hb)
  replace XR := Aside0.mk (blk_below XR.out hb)
  replace P1 := Aside0.mk (P1.out.below hb)
  replace P2 := Aside0.mk (P2.out.below hb)
  have P3 := Aside0.mk hr
  obtain ⟨b4, A4, n4, c4, x4, rfl⟩ := hr.ex
  clear hr hb
  have BL := BEL
  have BELo := BEL
  go_wp2_with (replace BEL := Aside0.mk ((BEL.out.alloc (.cells #[.bool false, .slice none 0 0, .int .i64 0] 27)).less (j := 2) (by omega)); have HN := Aside0.mk (blk_new w4 (.cells #[.bool false, .slice none 0 0, .int .i64 0] 27)); have L_X0 := lt_blk X0.out; replace X0 := Aside0.mk (blk_alloc X0.out (.cells #[.bool false, .slice none 0 0, .int .i64 0] 27)); have L_XR := lt_blk XR.out; replace XR := Aside0.mk (blk_alloc XR.out (.cells #[.bool false, .slice none 0 0, .int .i64 0] 27)); replace P1 := Aside0.mk (P1.out.below (below_alloc (Below.refl _ _) (.cells #[.bool false, .slice none 0 0, .int .i64 0] 27))); replace P2 := Aside0.mk (P2.out.below (below_alloc (Below.refl _ _) (.cells #[.bool false, .slice none 0 0, .int .i64 0] 27))); replace P3 := Aside0.mk (P3.out.below (below_alloc (Below.refl _ _) (.cells #[.bool false, .slice none 0 0, .int .i64 0] 27))); ((with_reducible refine gate_store (p := 5) rfl ?_); go_must (refine store_box 27 5 (.tmp 15) rfl rfl rfl (g := w4.heap.size) (e := 27) (.agg #[.bool b4, .slice A4 n4 c4, .int .i64 x4]) ([.bool b4, .slice A4 n4 c4, .int .i64 x4]) rfl rfl rfl info_dyad ?b1 HN.out rfl ?_; (case b1 => intro q hq; simp at hq; rcases hq with rfl | rfl | rfl <;> rfl); intro wb hbx hgx; have HX := Aside0.mk hbx; have HG := Aside0.mk hgx; clear hbx hgx)); replace P1 := Aside0.mk (P1.out.grown_box HN.out (by decide) HG.out); replace P2 := Aside0.mk (P2.out.grown_box HN.out (by decide) HG.out); replace P3 := Aside0.mk (P3.out.grown_box HN.out (by decide) HG.out); have LB_XN := BELo.out.2; replace BEL := Aside0.mk (BEL.out.grown HG.out (Nat.le_trans (Nat.le_add_right _ _) LB_XN)); replace X0 := Aside0.mk (blk_grown X0.out HG.out (Nat.ne_of_lt L_X0)); replace XR := Aside0.mk (blk_grown XR.out HG.out (Nat.ne_of_lt L_XR)); have NE_X0_XN := Aside0.mk (Nat.ne_of_lt L_X0); have NE_XR_XN := Aside0.mk (Nat.ne_of_lt L_XR); clear L_X0; clear L_XR; have LL_XN := Aside0.mk LB_XN; clear LB_XN; have XN := HX; clear HG HN HX)
  obtain ⟨GM, hGM⟩ : ∃ G : (Nat → Prop) → (Nat → Value) → World → Prop, G = fun L v W => BelN wb 0 W ∧ W.heap[w.heap.size]? = some (.cells #[.bool b2, .slice A2 n2 c2, .int .i64 x2] 27 (0, 0)) ∧ W.heap[w.heap.size + 1]? = some (.cells #[.bool false, .slice none 0 0, .int .i64 0] 27 (0, 0)) ∧ W.heap[w4.heap.size]? = some (.cells #[.bool b4, .slice A4 n4 c4, .int .i64 x4] 27 (0, 0)) ∧ PDy W (w.heap.size + 2) (.agg #[.bool b2, .slice A2 n2 c2, .int .i64 x2]) z (-1074) ∧ PDy W (w.heap.size + 2) (.agg #[.bool b4, .slice A4 n4 c4, .int .i64 x4]) n 0 ∧ (L 0 → (v 0) = .agg #[.bool b2, .slice A2 n2 c2, .int .i64 x2]) ∧ (L 1 → (v 1) = .agg #[.bool b4, .slice A4 n4 c4, .int .i64 x4]) ∧ (L 2 → PDy W wb.heap.size (v 2) (n * M) (-1074)) ∧ (L 3 → PDy W wb.heap.size (v 3) (z - n * M) (-1074)) ∧ (L 4 → ∃ g : Nat, (v 4) = .pointer (some ⟨g, 0, none⟩) ∧ wb.heap.size + 0 ≤ g ∧ (¬ L 5 → W.heap[g]? = some (.cells #[.bool false, .slice none 0 0, .int .i64 0] 27 (0, 0))) ∧ (L 5 → ∃ (bb : Bool) (A : Option Addr) (n c : Nat) (x : Int), (v 3) = .agg #[.bool bb, .slice A n c, .int .i64 x] ∧ W.heap[g]? = some (.cells #[.bool bb, .slice A n c, .int .i64 x] 27 (0, 0)))) ∧ True := ⟨_, rfl⟩
  refine wp_region_slotsV [16, 17, 18, 19, 6] (by kernel_rfl) (by kernel_rfl) (G := GM) ?h0M ?hstepM ?hendM
  case h0M =>
    intro v; rw [hGM]
    exact ⟨(BelN.zero wb).next (below_drew (Below.refl _ _)), blk_drew X0.out, blk_drew XR.out, blk_drew XN.out, (P1.out.below (below_drew (Below.refl _ _))).lower HLO1.out, (P3.out.below (below_drew (Below.refl _ _))).lower HLO3.out, fun h => h.elim, fun h => h.elim, fun h => h.elim, fun h => h.elim, fun h => h.elim, trivial⟩
  case hstepM =>
    intro k o ho v W L hGv hnk haft hcl K hK
    rw [hGM] at hGv
    obtain ⟨hB, hb0, hb1, hb2, hk0, hk1, f0, f1, f2, f3, f4, f5⟩ := hGv
    rcases k with _ | _ | _ | _ | _ | _ | k
    all_goals first
      | (cases ho; done)
      | (obtain rfl := (Option.some.inj ho).symm
         clear ho
         rw [if_pos (by rfl)]
         simp only [setAll, List.setIfInBounds_toArray, List.set_cons_zero, List.set_cons_succ, List.set_nil, List.getElem_toArray, List.getElem_cons_zero, List.getElem_cons_succ, Nat.reduceAdd] at haft hK ⊢)
    case zero =>
      have cc0 := (box_cell (v := .bool b2) hb0 0 rfl).1
      have cc1 := (box_cell (v := .slice A2 n2 c2) hb0 1 rfl).1
      have cc2 := (box_cell (v := .int .i64 x2) hb0 2 rfl).1
      have hb := Below.refl W.heap.size W
      have key := hK.out (.agg #[.bool b2, .slice A2 n2 c2, .int .i64 x2]) W (by rw [hGM]; exact ⟨hB.next hb, blk_below hb0 hb, blk_below hb1 hb, blk_below hb2 hb, hk0.below hb, hk1.below hb, fun _ => by rw [upd_eq], (kv f1 (by decide)), (kd f2 (by decide) hb), (kd f3 (by decide) hb), (fun h => by obtain ⟨g, e1, e2, e3, e4⟩ := f4 (h.resolve_right (by decide)); rw [upd_ne v _ (by decide), upd_ne v _ (by decide)]; exact ⟨g, e1, e2, fun h2 => blk_below (e3 (fun h3 => h2 (.inl h3))) hb, fun h2 => by obtain ⟨bb, A, n, c, x, y1, y2⟩ := e4 (h2.resolve_right (by decide)); exact ⟨bb, A, n, c, x, y1, blk_below y2 hb⟩⟩), trivial⟩)
      clear hb0 hb1 hb2 hk0 hk1 f0 f1 f2 f3 f4 f5 hb hK
      go_simp
      simpa [upd] using key
    case succ.zero =>
      have cc0 := (box_cell (v := .bool b4) hb2 0 rfl).1
      have cc1 := (box_cell (v := .slice A4 n4 c4) hb2 1 rfl).1
      have cc2 := (box_cell (v := .int .i64 x4) hb2 2 rfl).1
      have hb := Below.refl W.heap.size W
      have key := hK.out (.agg #[.bool b4, .slice A4 n4 c4, .int .i64 x4]) W (by rw [hGM]; exact ⟨hB.next hb, blk_below hb0 hb, blk_below hb1 hb, blk_below hb2 hb, hk0.below hb, hk1.below hb, (kv f0 (by decide)), fun _ => by rw [upd_eq], (kd f2 (by decide) hb), (kd f3 (by decide) hb), (fun h => by obtain ⟨g, e1, e2, e3, e4⟩ := f4 (h.resolve_right (by decide)); rw [upd_ne v _ (by decide), upd_ne v _ (by decide)]; exact ⟨g, e1, e2, fun h2 => blk_below (e3 (fun h3 => h2 (.inl h3))) hb, fun h2 => by obtain ⟨bb, A, n, c, x, y1, y2⟩ := e4 (h2.resolve_right (by decide)); exact ⟨bb, A, n, c, x, y1, blk_below y2 hb⟩⟩), trivial⟩)
      clear hb0 hb1 hb2 hk0 hk1 f0 f1 f2 f3 f4 f5 hb hK
      go_simp
      simpa [upd] using key
    case succ.succ.zero =>
      have d1 := f1 (haft { on := 1, ground := .data } (by simp) rfl)
      have D1 := d1
      have K3 := hk1
      have HALL := Aside0.mk (And.intro hK (And.intro hB (And.intro hb0 ( And.intro hb1 ( And.intro hb2 ( And.intro hk0 ( And.intro hk1 ( And.intro f0 ( And.intro f1 ( And.intro f2 ( And.intro f3 ( And.intro f4 ( And.intro f5 (True.intro))))))))))))))
      clear hK hb0 hb1 hb2 hk0 hk1 f0 f1 f2 f3 f4 f5
      go_simp
      go_at_call 69
      refine (shift_ok (-1) K3.c ON.out (by decide) (by decide) (tab_below HT.out (BEL.out.next hB.1).1)).mono ?_
      rintro en w4 ⟨v1, rfl, hr, hb⟩
      obtain ⟨hK, hB, hb0, hb1, hb2, hk0, hk1, f0, f1, f2, f3, f4, f5, _⟩ := HALL.out
      have key := hK.out (v1) w4 (by rw [hGM]; exact ⟨hB.next hb, blk_below hb0 hb, blk_below hb1 hb, blk_below hb2 hb, hk0.below hb, hk1.below hb, (kv f0 (by decide)), (kv f1 (by decide)), fun _ => by rw [upd_eq]; exact (QS.out _ _ _ hr).lower (Nat.le_trans (Nat.le_add_right _ _) hB.2), (kd f3 (by decide) hb), (fun h => by obtain ⟨g, e1, e2, e3, e4⟩ := f4 (h.resolve_right (by decide)); rw [upd_ne v _ (by decide), upd_ne v _ (by decide)]; exact ⟨g, e1, e2, fun h2 => blk_below (e3 (fun h3 => h2 (.inl h3))) hb, fun h2 => by obtain ⟨bb, A, n, c, x, y1, y2⟩ := e4 (h2.resolve_right (by decide)); exact ⟨bb, A, n, c, x, y1, blk_below y2 hb⟩⟩), trivial⟩)
      clear hb0 hb1 hb2 hk0 hk1 f0 f1 f2 f3 f4 f5 hK HALL
      simpa [upd, D1] using key
    case succ.succ.succ.zero =>
      have hns5 : ¬ L 5 := fun hs => hnk (hcl 5 _ rfl hs { on := 3, ground := .data } (by simp) rfl)
      have d0 := f0 (haft { on := 0, ground := .data } (by simp) rfl)
      have D0 := d0
      have d2 := f2 (haft { on := 2, ground := .data } (by simp) rfl)
      have D2 := d2
      have K1 := hk0
      have HALL := Aside0.mk (And.intro hK (And.intro hB (And.intro hb0 ( And.intro hb1 ( And.intro hb2 ( And.intro hk0 ( And.intro hk1 ( And.intro f0 ( And.intro f1 ( And.intro f2 ( And.intro f3 ( And.intro f4 ( And.intro f5 (True.intro))))))))))))))
      clear hK hb0 hb1 hb2 hk0 hk1 f0 f1 f2 f3 f4 f5
      go_simp
      go_at_call 81
      refine (sub_ok K1.c d2.c O1.out O2.out (tab_below HT.out (BEL.out.next hB.1).1)).mono ?_
      rintro en w4 ⟨v1, rfl, hr, hb⟩
      obtain ⟨hK, hB, hb0, hb1, hb2, hk0, hk1, f0, f1, f2, f3, f4, f5, _⟩ := HALL.out
      have key := hK.out (v1) w4 (by rw [hGM]; exact ⟨hB.next hb, blk_below hb0 hb, blk_below hb1 hb, blk_below hb2 hb, hk0.below hb, hk1.below hb, (kv f0 (by decide)), (kv f1 (by decide)), (kd f2 (by decide) hb), fun _ => by rw [upd_eq]; exact hr.lower (Nat.le_trans (Nat.le_add_right _ _) hB.2), (fun h => by obtain ⟨g, e1, e2, e3, e4⟩ := f4 (h.resolve_right (by decide)); rw [upd_ne v _ (by decide)]; exact ⟨g, e1, e2, fun h2 => blk_below (e3 (fun h3 => h2 (.inl h3))) hb, fun h2 => (hns5 (h2.resolve_right (by decide))).elim⟩), trivial⟩)
      clear hb0 hb1 hb2 hk0 hk1 f0 f1 f2 f3 f4 f5 hK HALL
      simpa [upd, D0] using key
    case succ.succ.succ.succ.zero =>
      have hns5 : ¬ L 5 := fun hs => hnk (hcl 5 _ rfl hs { on := 4, ground := .data } (by simp) rfl)
      have hb := below_alloc (Below.refl W.heap.size W) (.cells #[.bool false, .slice none 0 0, .int .i64 0] 27)
      have key := hK.out (.pointer (some ⟨W.heap.size, 0, none⟩)) (W.alloc (.cells #[.bool false, .slice none 0 0, .int .i64 0] 27)) (by rw [hGM]; exact ⟨hB.next hb, blk_below hb0 hb, blk_below hb1 hb, blk_below hb2 hb, hk0.below hb, hk1.below hb, (kv f0 (by decide)), (kv f1 (by decide)), (kd f2 (by decide) hb), (kd f3 (by decide) hb), fun _ => by rw [upd_eq]; exact ⟨W.heap.size, rfl, hB.2, fun _ => blk_new W _, fun h2 => (hns5 (h2.resolve_right (by decide))).elim⟩, trivial⟩)
      clear hb0 hb1 hb2 hk0 hk1 f0 f1 f2 f3 f4 f5 hK hb hns5
      go_simp
      simpa [upd] using key
    case succ.succ.succ.succ.succ.zero =>
      have l0 := lt_blk X0.out
      have l1 := lt_blk XR.out
      have l2 := lt_blk XN.out
      obtain ⟨g, e1, e2, e3, -⟩ := f4 (haft { on := 4, ground := .data } (by simp) rfl)
      have hgb := e3 hnk
      have ds := f3 (haft { on := 3, ground := .data } (by simp) rfl)
      obtain ⟨bb, A, n, c, x, es⟩ := ds.ex
      refine wp_store_box 27 6 (.tmp 19) rfl rfl (g := g) (e := 27) (v 3) [.bool bb, .slice A n c, .int .i64 x] (by first | rfl | exact e1) rfl (by rw [es]; rfl) info_dyad ?_ hgb rfl ?_
      · intro q hq; simp at hq; rcases hq with rfl | rfl | rfl <;> rfl
      · intro w1 hw1 hg
        have key := hK.out undef w1 (by rw [hGM]; exact ⟨hB.grown hg (by omega), blk_grown hb0 hg (by omega), blk_grown hb1 hg (by omega), blk_grown hb2 hg (by omega), hk0.grown_box hgb (by decide) hg, hk1.grown_box hgb (by decide) hg, (kv f0 (by decide)), (kv f1 (by decide)), (kg f2 (by decide) hgb (by decide) hg), (kg f3 (by decide) hgb (by decide) hg), (fun h => by rw [upd_ne v _ (by decide), upd_ne v _ (by decide)]; exact ⟨g, e1, e2, fun h2 => (h2 (.inr rfl)).elim, fun _ => ⟨bb, A, n, c, x, es, hw1⟩⟩), trivial⟩)
        clear hb0 hb1 hb2 hk0 hk1 f0 f1 f2 f3 f4 f5 hK
        simpa [upd] using key
  case hendM =>
    intro v W L0 hall hGv
    rw [hGM] at hGv
    obtain ⟨hB, hb0, hb1, hb2, hk0, hk1, f0, f1, f2, f3, f4, _⟩ := hGv
    have d3 := f3 (hall 3 (by decide))
    obtain ⟨g, p4, hgs, _, hg5⟩ := f4 (hall 4 (by decide))
    obtain ⟨b9, A9, n9, c9, x9, p3, hx9⟩ := hg5 (hall 5 (by decide))
    rw [p3] at d3
    have HLO4 := Aside0.mk BEL.out.2
    replace BEL := Aside0.mk (BEL.out.next hB.1)
    have l0 := lt_blk X0.out
    have l1 := lt_blk XR.out
    have l2 := lt_blk XN.out
    have HGS := Aside0.mk (And.intro (show w.heap.size ≠ g by omega) (And.intro (show w.heap.size + 1 ≠ g by omega) (show w4.heap.size ≠ g by omega)))
    replace X0 := Aside0.mk hb0
    replace XR := Aside0.mk hb1
    replace XN := Aside0.mk hb2
    have XG := Aside0.mk hx9
    have P4 := Aside0.mk d3
    replace P3 := Aside0.mk hk1
    replace P1 := Aside0.mk hk0
    clear hall f0 f1 f2 f3 f4 hB hb0 hb1 hb2 d3 hx9 hg5 hgs hk0 hk1 l0 l1 l2 P2
    simp only [setAll, List.setIfInBounds_toArray, List.set_cons_zero, List.set_cons_succ, Nat.reduceAdd, p3, p4]
    obtain ⟨q0, q0'⟩ := box_cell X0.out 0 rfl
    obtain ⟨q1, q1'⟩ := box_cell X0.out 1 rfl
    obtain ⟨q2, q2'⟩ := box_cell X0.out 2 rfl
    obtain ⟨q3, q3'⟩ := box_cell XG.out 0 rfl
    obtain ⟨q4, q4'⟩ := box_cell XG.out 1 rfl
    obtain ⟨q5, q5'⟩ := box_cell XG.out 2 rfl
    go_wp2_with fail
    clear q0 q0' q1 q1' q2 q2' q3 q3' q4 q4' q5 q5'
    go_at_call 102
    refine (fits_ok P1.out.c O1.out F1.out.1 F1.out.2).mono ?_
    rintro en10 w10 ⟨rfl, hb⟩
    replace BEL := Aside0.mk (BEL.out.next hb)
    replace X0 := Aside0.mk (blk_below X0.out hb)
    replace XR := Aside0.mk (blk_below XR.out hb)
    replace XN := Aside0.mk (blk_below XN.out hb)
    replace XG := Aside0.mk (blk_below XG.out hb)
    replace P1 := Aside0.mk (P1.out.below hb)
    replace P3 := Aside0.mk (P3.out.below hb)
    replace P4 := Aside0.mk (P4.out.below hb)
    clear hb
    obtain ⟨q6, q6'⟩ := box_cell X0.out 0 rfl
    obtain ⟨q7, q7'⟩ := box_cell X0.out 1 rfl
    obtain ⟨q8, q8'⟩ := box_cell X0.out 2 rfl
    obtain ⟨q9, q9'⟩ := box_cell XG.out 0 rfl
    obtain ⟨q10, q10'⟩ := box_cell XG.out 1 rfl
    obtain ⟨q11, q11'⟩ := box_cell XG.out 2 rfl
    go_wp2_with fail
    clear q6 q6' q7 q7' q8 q8' q9 q9' q10 q10' q11 q11'
    go_at_call 102
    refine (fits_ok P4.out.c OR.out FR.out.1 FR.out.2).mono ?_
    rintro en11 w11 ⟨rfl, hb⟩
    replace BEL := Aside0.mk (BEL.out.next hb)
    replace X0 := Aside0.mk (blk_below X0.out hb)
    replace XR := Aside0.mk (blk_below XR.out hb)
    replace XN := Aside0.mk (blk_below XN.out hb)
    replace XG := Aside0.mk (blk_below XG.out hb)
    replace P1 := Aside0.mk (P1.out.below hb)
    replace P3 := Aside0.mk (P3.out.below hb)
    replace P4 := Aside0.mk (P4.out.below hb)
    clear hb
    obtain ⟨q12, q12'⟩ := box_cell X0.out 0 rfl
    obtain ⟨q13, q13'⟩ := box_cell X0.out 1 rfl
    obtain ⟨q14, q14'⟩ := box_cell X0.out 2 rfl
    obtain ⟨q15, q15'⟩ := box_cell XG.out 0 rfl
    obtain ⟨q16, q16'⟩ := box_cell XG.out 1 rfl
    obtain ⟨q17, q17'⟩ := box_cell XG.out 2 rfl
    go_upto_region 8 with fail
    clear q12 q12' q13 q13' q14 q14' q15 q15' q16 q16' q17 q17'
    obtain ⟨GN, hGN⟩ : ∃ G : (Nat → Prop) → (Nat → Value) → World → Prop, G = fun L v W => BelN w 2 W ∧ W.heap[w.heap.size]? = some (.cells #[.bool b2, .slice A2 n2 c2, .int .i64 x2] 27 (0, 0)) ∧ W.heap[w4.heap.size]? = some (.cells #[.bool b4, .slice A4 n4 c4, .int .i64 x4] 27 (0, 0)) ∧ W.heap[g]? = some (.cells #[.bool b9, .slice A9 n9 c9, .int .i64 x9] 27 (0, 0)) ∧ PDy W (w.heap.size + 2) (.agg #[.bool b9, .slice A9 n9 c9, .int .i64 x9]) (z - n * M) (-1074) ∧ PDy W (w.heap.size + 2) (.agg #[.bool b4, .slice A4 n4 c4, .int .i64 x4]) n 0 ∧ (L 0 → (v 0) = .agg #[.bool b4, .slice A4 n4 c4, .int .i64 x4]) ∧ (L 1 → (v 1) = .int .i64 (n % 4)) ∧ (L 2 → (v 2) = .agg #[.bool b9, .slice A9 n9 c9, .int .i64 x9]) ∧ (L 3 → (v 3) = .int .i64 (n % 4)) ∧ ((¬ L 4 → W.heap[w.heap.size + 1]? = some (.cells #[.bool false, .slice none 0 0, .int .i64 0] 27 (0, 0))) ∧ (L 4 → W.heap[w.heap.size + 1]? = some (.cells #[.bool b9, .slice A9 n9 c9, .int .i64 x9] 27 (0, 0)))) ∧ (L 5 → (v 5) = .int .i64 0) := ⟨_, rfl⟩
    refine wp_region_slotsV [29, 30, 31, 2, 99, 4] (by kernel_rfl) (by kernel_rfl) (G := GN) ?h0N ?hstepN ?hendN
    case h0N =>
      intro v; rw [hGN]
      exact ⟨BEL.out.next (below_drew (Below.refl _ _)), blk_drew X0.out, blk_drew XN.out, blk_drew XG.out, (P4.out.below (below_drew (Below.refl _ _))).lower HLO4.out, (P3.out.below (below_drew (Below.refl _ _))), fun h => h.elim, fun h => h.elim, fun h => h.elim, fun h => h.elim, ⟨fun _ => blk_drew XR.out, fun h => h.elim⟩, fun h => h.elim⟩
    case hstepN =>
      intro k o ho v W L hGv hnk haft hcl K hK
      rw [hGN] at hGv
      obtain ⟨hB, hb0, hb1, hb2, hk0, hk1, f0, f1, f2, f3, f4, f5⟩ := hGv
      rcases k with _ | _ | _ | _ | _ | _ | k
      all_goals first
        | (cases ho; done)
        | (obtain rfl := (Option.some.inj ho).symm
           clear ho
           rw [if_pos (by rfl)]
           simp only [setAll, List.setIfInBounds_toArray, List.set_cons_zero, List.set_cons_succ, List.set_nil, List.getElem_toArray, List.getElem_cons_zero, List.getElem_cons_succ, Nat.reduceAdd] at haft hK ⊢)
      case zero =>
        have cc0 := (box_cell (v := .bool b4) hb1 0 rfl).1
        have cc1 := (box_cell (v := .slice A4 n4 c4) hb1 1 rfl).1
        have cc2 := (box_cell (v := .int .i64 x4) hb1 2 rfl).1
        have hb := Below.refl W.heap.size W
        have key := hK.out (.agg #[.bool b4, .slice A4 n4 c4, .int .i64 x4]) W (by rw [hGN]; exact ⟨hB.next hb, blk_below hb0 hb, blk_below hb1 hb, blk_below hb2 hb, hk0.below hb, hk1.below hb, fun _ => by rw [upd_eq], (kv f1 (by decide)), (kv f2 (by decide)), (kv f3 (by decide)), (⟨fun h2 => blk_below (f4.1 (fun h3 => h2 (.inl h3))) hb, fun h2 => blk_below (f4.2 (h2.resolve_right (by decide))) hb⟩), (kv f5 (by decide))⟩)
        clear hb0 hb1 hb2 hk0 hk1 f0 f1 f2 f3 f4 f5 hb hK
        go_simp
        simpa [upd] using key
      case succ.zero =>
        have d0 := f0 (haft { on := 0, ground := .data } (by simp) rfl)
        have D0 := d0
        have K3 := hk1
        have HALL := Aside0.mk (And.intro hK (And.intro hB (And.intro hb0 ( And.intro hb1 ( And.intro hb2 ( And.intro hk0 ( And.intro hk1 ( And.intro f0 ( And.intro f1 ( And.intro f2 ( And.intro f3 ( And.intro f4 ( And.intro f5 (True.intro))))))))))))))
        clear hK hb0 hb1 hb2 hk0 hk1 f0 f1 f2 f3 f4 f5
        go_simp
        go_at_call 104
        refine (by4_ok K3.c ON.out (tab_below HT.out hB.1)).mono ?_
        rintro en w4 ⟨rfl, hb⟩
        obtain ⟨hK, hB, hb0, hb1, hb2, hk0, hk1, f0, f1, f2, f3, f4, f5, _⟩ := HALL.out
        have key := hK.out (.int .i64 (n % 4)) w4 (by rw [hGN]; exact ⟨hB.next hb, blk_below hb0 hb, blk_below hb1 hb, blk_below hb2 hb, hk0.below hb, hk1.below hb, (kv f0 (by decide)), fun _ => by rw [upd_eq], (kv f2 (by decide)), (kv f3 (by decide)), (⟨fun h2 => blk_below (f4.1 (fun h3 => h2 (.inl h3))) hb, fun h2 => blk_below (f4.2 (h2.resolve_right (by decide))) hb⟩), (kv f5 (by decide))⟩)
        clear hb0 hb1 hb2 hk0 hk1 f0 f1 f2 f3 f4 f5 hK HALL
        simpa [upd, D0] using key
      case succ.succ.zero =>
        have hns4 : ¬ L 4 := fun hs => hnk (hcl 4 _ rfl hs { on := 2, ground := .data } (by simp) rfl)
        have cc0 := (box_cell (v := .bool b9) hb2 0 rfl).1
        have cc1 := (box_cell (v := .slice A9 n9 c9) hb2 1 rfl).1
        have cc2 := (box_cell (v := .int .i64 x9) hb2 2 rfl).1
        have hb := Below.refl W.heap.size W
        have key := hK.out (.agg #[.bool b9, .slice A9 n9 c9, .int .i64 x9]) W (by rw [hGN]; exact ⟨hB.next hb, blk_below hb0 hb, blk_below hb1 hb, blk_below hb2 hb, hk0.below hb, hk1.below hb, (kv f0 (by decide)), (kv f1 (by decide)), fun _ => by rw [upd_eq], (kv f3 (by decide)), (⟨fun h2 => blk_below (f4.1 (fun h3 => h2 (.inl h3))) hb, fun h2 => (hns4 (h2.resolve_right (by decide))).elim⟩), (kv f5 (by decide))⟩)
        clear hb0 hb1 hb2 hk0 hk1 f0 f1 f2 f3 f4 f5 hb hK
        go_simp
        simpa [upd] using key
      case succ.succ.succ.zero =>
        have d1 := f1 (haft { on := 1, ground := .data } (by simp) rfl)
        have D1 := d1
        have hb := Below.refl W.heap.size W
        have key := hK.out (.int .i64 (n % 4)) W (by rw [hGN]; exact ⟨hB.next hb, blk_below hb0 hb, blk_below hb1 hb, blk_below hb2 hb, hk0.below hb, hk1.below hb, (kv f0 (by decide)), (kv f1 (by decide)), (kv f2 (by decide)), fun _ => by rw [upd_eq], (⟨fun h2 => blk_below (f4.1 (fun h3 => h2 (.inl h3))) hb, fun h2 => blk_below (f4.2 (h2.resolve_right (by decide))) hb⟩), (kv f5 (by decide))⟩)
        clear hb0 hb1 hb2 hk0 hk1 f0 f1 f2 f3 f4 f5 hb hK
        go_simp
        simpa [upd, D1] using key
      case succ.succ.succ.succ.zero =>
        have h_g := HGS.out
        have h_n := NE_XR_XN.out
        have hgb := f4.1 hnk
        have ds := f2 (haft { on := 2, ground := .data } (by simp) rfl)
        have es := ds
        refine wp_store_box 27 3 (.tmp 31) rfl rfl (g := w.heap.size + 1) (e := 27) (v 2) [.bool b9, .slice A9 n9 c9, .int .i64 x9] (by first | rfl | exact rfl) rfl (by rw [es]; rfl) info_dyad ?_ hgb rfl ?_
        · intro q hq; simp at hq; rcases hq with rfl | rfl | rfl <;> rfl
        · intro w1 hw1 hg
          have key := hK.out undef w1 (by rw [hGN]; exact ⟨hB.grown hg (by omega), blk_grown hb0 hg (by omega), blk_grown hb1 hg (by omega), blk_grown hb2 hg (by omega), hk0.grown_box hgb (by decide) hg, hk1.grown_box hgb (by decide) hg, (kv f0 (by decide)), (kv f1 (by decide)), (kv f2 (by decide)), (kv f3 (by decide)), ⟨fun h => (h (.inr rfl)).elim, fun _ => hw1⟩, (kv f5 (by decide))⟩)
          clear hb0 hb1 hb2 hk0 hk1 f0 f1 f2 f3 f4 f5 hK
          simpa [upd] using key
      case succ.succ.succ.succ.succ.zero =>
        have hb := Below.refl W.heap.size W
        have key := hK.out (.int .i64 0) W (by rw [hGN]; exact ⟨hB.next hb, blk_below hb0 hb, blk_below hb1 hb, blk_below hb2 hb, hk0.below hb, hk1.below hb, (kv f0 (by decide)), (kv f1 (by decide)), (kv f2 (by decide)), (kv f3 (by decide)), (⟨fun h2 => blk_below (f4.1 (fun h3 => h2 (.inl h3))) hb, fun h2 => blk_below (f4.2 (h2.resolve_right (by decide))) hb⟩), fun _ => by rw [upd_eq]⟩)
        clear hb0 hb1 hb2 hk0 hk1 f0 f1 f2 f3 f4 f5 hb hK
        go_simp
        simpa [upd] using key
    case hendN =>
      intro v W L0 hall hGv
      rw [hGN] at hGv
      obtain ⟨hB, hb0, hb1, hb2, hk0, hk1, f0, f1, f2, f3, f4, f5⟩ := hGv
      have d3 := f3 (hall 3 (by decide))
      have d5 := f5 (hall 5 (by decide))
      have d4 := f4.2 (hall 4 (by decide))
      replace BEL := Aside0.mk hB
      replace XR := Aside0.mk d4
      replace P4 := Aside0.mk hk0
      clear hall f0 f1 f2 f3 f4 f5 hB hb0 hb1 hb2 hk0 hk1 d4
      simp only [setAll, List.setIfInBounds_toArray, List.set_cons_zero, List.set_cons_succ, List.set_nil, Nat.reduceAdd, d3, d5]
      go_wp2
      refine bodyPost_ret (results_list (rs := [.tmp 2, .cell 3 27, .tmp 4]) rfl (by simp) (.tmp (Vals.box any_dyad info_dyad (g := w.heap.size + 1) rfl XR.out rfl (.tmp .nil)))) rfl ?_
      exact ⟨_, rfl, P4.out.lower (Nat.le_add_right _ _), BEL.out.1⟩
end Go.Proofs.YtgpjplelgffocaaDoor

namespace Go.Proofs.YtgpjplelgffocaaDoor
open Go.RowKit Go.Proofs.YtgpjplelgffocaaDoorW.PrintWords Limb
set_option linter.unusedVariables false
set_option linter.unusedSimpArgs false

theorem ten_small {i : Nat} (h : i ≤ 60) : ((10 : Int) ^ i).natAbs < 2 ^ 300 := by
  rw [Int.natAbs_pow]
  calc (10 : Int).natAbs ^ i ≤ 16 ^ i := Nat.pow_le_pow_left (by decide) i
    _ ≤ 16 ^ 60 := Nat.pow_le_pow_right (by decide) h
    _ < 2 ^ 250 := by decide
    _ ≤ 2 ^ 300 := pow_le2 250 300 (by decide)
theorem meas_int {i k : Nat} (h : i < k) : k - (intOf (.int .i64 ((i : Int) + 1))).toNat < k - (intOf (.int .i64 (i : Int))).toNat := by simp [intOf]; omega
def tenI (i : Nat) : Int := 10 ^ i
theorem tenI_small {i : Nat} (h : i ≤ 60) : (tenI i).natAbs < 2 ^ 300 := ten_small h
theorem tenI_succ (i : Nat) : tenI i * 10 = tenI (i + 1) := (Int.pow_succ 10 i).symm
theorem tenI_zero : tenI 0 = 1 := rfl
set_option maxRecDepth 100000 in
set_option maxHeartbeats 8000000 in
theorem ten_any (k : Nat) (hk : k ≤ 50) (w : World) (hT : TabAt 0 Lib.deBruijn64tab w) :
    Calls Tryd.prog 80 #[.int .i64 k] w fun en w' => ∃ v', en = .returned v' ∧ PDy w' w.heap.size v' (tenI k) 0 ∧ Below w.heap.size w w' := by
  have HT := Aside0.mk hT
  have HK := Aside0.mk hk
  have O10 := Aside0.mk (Ok.of (z := 10) (e := 0) 4 (by decide) (by decide) (by decide) (by decide))
  have QM := Aside0.mk (fun (i : Nat) (v : Value) (b : Nat) (W : World) (h : PDy W b v (tenI i * 10) (0 + 0)) => (by
    rw [← tenI_succ]; exact h : PDy W b v (tenI (i + 1)) 0))
  clear hT hk
  go_enter Tryd.func80, Tryd.ntmps80
  have BEL : Aside0 (BelN w 1 (w.alloc (.cells #[.bool false, .slice none 0 0, .int .i64 0] 27))) := ⟨((BelN.zero w).alloc _).less (by decide)⟩
  have XR : Aside0 ((w.alloc (.cells #[.bool false, .slice none 0 0, .int .i64 0] 27)).heap[w.heap.size]? = some (.cells #[.bool false, .slice none 0 0, .int .i64 0] 27 (0, 0))) := ⟨by have h := blk_new w (.cells #[.bool false, .slice none 0 0, .int .i64 0] 27); exact h⟩
  go_wp2_with fail
  go_at_call 68
  refine (pint_dy 1 _ (by decide) (by decide) (tab_below HT.out BEL.out.1)).mono ?_
  rintro en1 w1 ⟨v1, rfl, hr, hb⟩
  replace BEL := Aside0.mk (BEL.out.next hb)
  replace XR := Aside0.mk (blk_below XR.out hb)
  have P1 := Aside0.mk hr
  obtain ⟨b1, A1, n1, c1, x1, rfl⟩ := hr.ex
  clear hr hb
  have BELo := BEL
  go_wp2_with (replace BEL := Aside0.mk ((BEL.out.alloc (.cells #[.bool false, .slice none 0 0, .int .i64 0] 27)).less (j := 1) (by omega)); have HN := Aside0.mk (blk_new w1 (.cells #[.bool false, .slice none 0 0, .int .i64 0] 27)); have L_XR := lt_blk XR.out; replace XR := Aside0.mk (blk_alloc XR.out (.cells #[.bool false, .slice none 0 0, .int .i64 0] 27)); replace P1 := Aside0.mk (P1.out.below (below_alloc (Below.refl _ _) (.cells #[.bool false, .slice none 0 0, .int .i64 0] 27))); ((with_reducible refine gate_store (p := 3) rfl ?_); go_must (refine store_box 27 3 (.tmp 4) rfl rfl rfl (g := w1.heap.size) (e := 27) (.agg #[.bool b1, .slice A1 n1 c1, .int .i64 x1]) ([.bool b1, .slice A1 n1 c1, .int .i64 x1]) rfl rfl rfl info_dyad ?b1 HN.out rfl ?_; (case b1 => intro q hq; simp at hq; rcases hq with rfl | rfl | rfl <;> rfl); intro wb hbx hgx; have HX := Aside0.mk hbx; have HG := Aside0.mk hgx; clear hbx hgx)); replace P1 := Aside0.mk (P1.out.grown_box HN.out (by decide) HG.out); have LB_X1 := BELo.out.2; replace BEL := Aside0.mk (BEL.out.grown HG.out (Nat.le_trans (Nat.le_add_right _ _) LB_X1)); replace XR := Aside0.mk (blk_grown XR.out HG.out (Nat.ne_of_lt L_XR)); have NE_XR_X1 := Aside0.mk (Nat.ne_of_lt L_XR); clear L_XR; have LL_X1 := Aside0.mk LB_X1; clear LB_X1; have X1 := HX; clear HG HN HX)
  go_loopw [6] (fun v6 wr => ∃ (i : Nat) (b : Bool) (A : Option Addr) (n c : Nat) (x : Int), v6 = .int .i64 i ∧ i ≤ k ∧ Aside0 (BelN w 1 wr) ∧ Aside0 (wr.heap[w.heap.size]? = some (.cells #[.bool false, .slice none 0 0, .int .i64 0] 27 (0, 0))) ∧ Aside0 (wr.heap[w1.heap.size]? = some (.cells #[.bool b, .slice A n c, .int .i64 x] 27 (0, 0))) ∧ Aside0 (PDy wr (w.heap.size + 1) (.agg #[.bool b, .slice A n c, .int .i64 x]) (tenI i) 0)) (fun v6 _ => k - (intOf v6).toNat)
  case atStart => exact ⟨0, _, _, _, _, _, rfl, Nat.zero_le _, BEL, XR, X1, ⟨by rw [tenI_zero]; exact P1.out.lower (by rw [size_alloc']; exact Nat.le_refl _)⟩⟩
  case round =>
    clear BEL BELo XR X1 P1
    obtain ⟨i, b, A, n, c, x, rfl, hik, BEL, XR, X1, P1⟩ := hrel
    by_cases hlt : i < k
    · have hlt' : (i : Int) < k := by omega
      have hld : decide ((i : Int) < k) = true := decide_eq_true hlt'
      have OI := Aside0.mk (Ok.of (e := 0) _ (tenI_small (i := i) (by have := HK.out; omega)) (by decide) (by decide) (by decide))
      go_upto_region 4 with fail
      obtain ⟨GM, hGM⟩ : ∃ G : (Nat → Prop) → (Nat → Value) → World → Prop, G = fun L v W => BelN w 1 W ∧ W.heap[w.heap.size]? = some (.cells #[.bool false, .slice none 0 0, .int .i64 0] 27 (0, 0)) ∧ PDy W (w.heap.size + 1) (.agg #[.bool b, .slice A n c, .int .i64 x]) (tenI i) 0 ∧ (L 0 → (v 0) = .agg #[.bool b, .slice A n c, .int .i64 x]) ∧ (L 1 → PDy W w.heap.size (v 1) 10 0) ∧ (L 2 → PDy W (w.heap.size + 1) (v 2) (tenI (i + 1)) 0) ∧ ((¬ L 3 → W.heap[w1.heap.size]? = some (.cells #[.bool b, .slice A n c, .int .i64 x] 27 (0, 0))) ∧ (L 3 → ∃ (bb : Bool) (A : Option Addr) (n c : Nat) (x : Int), (v 2) = .agg #[.bool bb, .slice A n c, .int .i64 x] ∧ W.heap[w1.heap.size]? = some (.cells #[.bool bb, .slice A n c, .int .i64 x] 27 (0, 0)))) := ⟨_, rfl⟩
      refine wp_region_slotsV [8, 9, 10] (by kernel_rfl) (by kernel_rfl) (G := GM) ?h0M ?hstepM ?hendM
      case h0M =>
        intro v; rw [hGM]
        exact ⟨BEL.out.next (below_drew (Below.refl _ _)), blk_drew XR.out, P1.out.below (below_drew (Below.refl _ _)), fun h => h.elim, fun h => h.elim, fun h => h.elim, ⟨fun _ => blk_drew X1.out, fun h => h.elim⟩⟩
      case hstepM =>
        intro k o ho v W L hGv hnk haft hcl K hK
        rw [hGM] at hGv
        obtain ⟨hB, hb0, hk0, f0, f1, f2, f3⟩ := hGv
        rcases k with _ | _ | _ | _ | k
        all_goals first
          | (cases ho; done)
          | (obtain rfl := (Option.some.inj ho).symm
             clear ho
             rw [if_pos (by rfl)]
             simp only [setAll, List.setIfInBounds_toArray, List.set_cons_zero, List.set_cons_succ, List.set_nil, List.getElem_toArray, List.getElem_cons_zero, List.getElem_cons_succ, Nat.reduceAdd] at haft hK ⊢)
        case zero =>
          have hgb := f3.1 (fun h => hnk (hcl 3 _ rfl h { on := 0, ground := .phase } (by simp) rfl))
          have cc0 := (box_cell (v := .bool b) hgb 0 rfl).1
          have cc1 := (box_cell (v := .slice A n c) hgb 1 rfl).1
          have cc2 := (box_cell (v := .int .i64 x) hgb 2 rfl).1
          have hb := Below.refl W.heap.size W
          have key := hK.out (.agg #[.bool b, .slice A n c, .int .i64 x]) W (by rw [hGM]; exact ⟨hB.next hb, blk_below hb0 hb, hk0.below hb, fun _ => by rw [upd_eq], (kd f1 (by decide) hb), (kd f2 (by decide) hb), (⟨fun h2 => blk_below (f3.1 (fun h3 => h2 (.inl h3))) hb, fun h2 => by rw [upd_ne v _ (by decide)]; obtain ⟨bb, A, n, c, x, y1, y2⟩ := f3.2 (h2.resolve_right (by decide)); exact ⟨bb, A, n, c, x, y1, blk_below y2 hb⟩⟩)⟩)
          clear hb0 hk0 f0 f1 f2 f3 hb hK
          go_simp
          simpa [upd] using key
        case succ.zero =>
          have HALL := Aside0.mk (And.intro hK (And.intro hB (And.intro hb0 ( And.intro hk0 ( And.intro f0 ( And.intro f1 ( And.intro f2 ( And.intro f3 (True.intro)))))))))
          clear hK hb0 hk0 f0 f1 f2 f3
          go_simp
          go_at_call 68
          refine (pint_dy 10 _ (by decide) (by decide) (tab_below HT.out hB.1)).mono ?_
          rintro en w4 ⟨v1, rfl, hr, hb⟩
          obtain ⟨hK, hB, hb0, hk0, f0, f1, f2, f3, _⟩ := HALL.out
          have key := hK.out (v1) w4 (by rw [hGM]; exact ⟨hB.next hb, blk_below hb0 hb, hk0.below hb, (kv f0 (by decide)), fun _ => by rw [upd_eq]; exact hr.lower (Nat.le_trans (Nat.le_add_right _ _) hB.2), (kd f2 (by decide) hb), (⟨fun h2 => blk_below (f3.1 (fun h3 => h2 (.inl h3))) hb, fun h2 => by rw [upd_ne v _ (by decide)]; obtain ⟨bb, A, n, c, x, y1, y2⟩ := f3.2 (h2.resolve_right (by decide)); exact ⟨bb, A, n, c, x, y1, blk_below y2 hb⟩⟩)⟩)
          clear hb0 hk0 f0 f1 f2 f3 hK HALL
          simpa [upd] using key
        case succ.succ.zero =>
          have hns3 : ¬ L 3 := fun hs => hnk (hcl 3 _ rfl hs { on := 2, ground := .data } (by simp) rfl)
          have d0 := f0 (haft { on := 0, ground := .data } (by simp) rfl)
          have D0 := d0
          have d1 := f1 (haft { on := 1, ground := .data } (by simp) rfl)
          have D1 := d1
          have K1 := hk0
          have HALL := Aside0.mk (And.intro hK (And.intro hB (And.intro hb0 ( And.intro hk0 ( And.intro f0 ( And.intro f1 ( And.intro f2 ( And.intro f3 (True.intro)))))))))
          clear hK hb0 hk0 f0 f1 f2 f3
          go_simp
          go_at_call 97
          refine (mul_ok K1.c d1.c OI.out O10.out (tab_below HT.out hB.1)).mono ?_
          rintro en w4 ⟨v1, rfl, hr, hb⟩
          obtain ⟨hK, hB, hb0, hk0, f0, f1, f2, f3, _⟩ := HALL.out
          have key := hK.out (v1) w4 (by rw [hGM]; exact ⟨hB.next hb, blk_below hb0 hb, hk0.below hb, (kv f0 (by decide)), (kd f1 (by decide) hb), fun _ => by rw [upd_eq]; exact (QM.out _ _ _ _ hr).lower hB.2, (⟨fun h2 => blk_below (f3.1 (fun h3 => h2 (.inl h3))) hb, fun h2 => (hns3 (h2.resolve_right (by decide))).elim⟩)⟩)
          clear hb0 hk0 f0 f1 f2 f3 hK HALL
          simpa [upd, D0] using key
        case succ.succ.succ.zero =>
          have h_n := NE_XR_X1.out
          have h_l := LL_X1.out
          have hgb := f3.1 hnk
          have ds := f2 (haft { on := 2, ground := .data } (by simp) rfl)
          obtain ⟨bb, A, n, c, x, es⟩ := ds.ex
          refine wp_store_box 27 3 (.tmp 10) rfl rfl (g := w1.heap.size) (e := 27) (v 2) [.bool bb, .slice A n c, .int .i64 x] (by first | rfl | exact rfl) rfl (by rw [es]; rfl) info_dyad ?_ hgb rfl ?_
          · intro q hq; simp at hq; rcases hq with rfl | rfl | rfl <;> rfl
          · intro w1 hw1 hg
            have key := hK.out undef w1 (by rw [hGM]; exact ⟨hB.grown hg (by omega), blk_grown hb0 hg (by omega), hk0.grown_box hgb (by decide) hg, (kv f0 (by decide)), (kg f1 (by decide) hgb (by decide) hg), (kg f2 (by decide) hgb (by decide) hg), ⟨fun h => (h (.inr rfl)).elim, fun _ => by rw [upd_ne v _ (by decide)]; exact ⟨bb, A, n, c, x, es, hw1⟩⟩⟩)
            clear hb0 hk0 f0 f1 f2 f3 hK
            simpa [upd] using key
      case hendM =>
        intro v W L0 hall hGv
        rw [hGM] at hGv
        obtain ⟨hB, hb0, hk0, f0, f1, f2, f3⟩ := hGv
        have d2 := f2 (hall 2 (by decide))
        obtain ⟨b9, A9, n9, c9, x9, p9, hx9⟩ := f3.2 (hall 3 (by decide))
        rw [p9] at d2
        replace BEL := Aside0.mk hB
        replace XR := Aside0.mk hb0
        replace X1 := Aside0.mk hx9
        replace P1 := Aside0.mk d2
        clear hall f0 f1 f2 f3 hB hb0 hk0 d2 hx9
        simp only [setAll, List.setIfInBounds_toArray, List.set_cons_zero, List.set_cons_succ, Nat.reduceAdd, p9]
        have hw : wrap64 ((i : Int) + 1) = (i : Int) + 1 := by unfold wrap64; have := HK.out; omega
        go_wp2
        go_roundw
        case rel => exact ⟨i + 1, _, _, _, _, _, by go_num, hlt, BEL, XR, X1, P1⟩
        case measure => rw [hw]; exact meas_int hlt
    · have hlt' : ¬ (i : Int) < k := by omega
      have hld : decide ((i : Int) < k) = false := decide_eq_false hlt'
      have he : i = k := by omega
      obtain ⟨q0, q0'⟩ := box_cell X1.out 0 rfl
      obtain ⟨q1, q1'⟩ := box_cell X1.out 1 rfl
      obtain ⟨q2, q2'⟩ := box_cell X1.out 2 rfl
      go_wp2_with (clear q0 q0' q1 q1' q2 q2'; ((with_reducible refine gate_store (p := 2) rfl ?_); go_must (refine store_box 27 2 (.tmp 12) rfl rfl rfl (g := w.heap.size) (e := 27) (.agg #[.bool b, .slice A n c, .int .i64 x]) ([.bool b, .slice A n c, .int .i64 x]) rfl rfl rfl info_dyad ?b1 XR.out rfl ?_; (case b1 => intro q hq; simp at hq; rcases hq with rfl | rfl | rfl <;> rfl); intro wb hbx hgx; have HX := Aside0.mk hbx; have HG := Aside0.mk hgx; clear hbx hgx)); replace P1 := Aside0.mk (P1.out.grown_box XR.out (by decide) HG.out); replace BEL := Aside0.mk (BEL.out.grown HG.out (by omega)); replace X1 := Aside0.mk (blk_grown X1.out HG.out (Ne.symm NE_XR_X1.out)); replace XR := HX; clear HG)
      refine bodyPost_ret (results_dyad rfl _ _ (w.heap.size) _ rfl XR.out rfl) rfl ?_
      rw [← he]
      exact ⟨_, rfl, P1.out.lower (Nat.le_add_right _ _), BEL.out.1⟩

set_option maxRecDepth 100000 in
set_option maxHeartbeats 8000000 in
theorem spotOf_any {v : Value} {z : Int} {w : World} (h : CDy w v z (-1074)) (hz : z.natAbs < 2 ^ 2098) (hT : TabAt 0 Lib.deBruijn64tab w) :
    Calls Tryd.prog 74 #[v] w fun en w' => ∃ v', en = .returned v' ∧ PS w' w.heap.size v' (nearF z 1072 % 4) (z - nearF z 1072 * 2 ^ 1073) (-1074) ∧ Below w.heap.size w w' := by
  obtain ⟨b0, A, n0, c, x0, rfl⟩ := h.ex
  have QT := Aside0.mk (fun (W : World) (hb : Below w.heap.size w W) => turns_ok (h.below hb) hz (tab_below hT hb))
  clear h hz hT
  generalize nearF z 1072 % 4 = q at *
  generalize z - nearF z 1072 * 2 ^ 1073 = r at *
  go_enter Tryd.func74, Tryd.ntmps74
  have BEL : Aside0 (BelN w 2 ((w.alloc (.cells #[.bool b0, .slice A n0 c, .int .i64 x0] 27)).alloc (.cells #[.int .i64 0, .bool false, .slice none 0 0, .int .i64 0] 82))) := ⟨(((BelN.zero w).alloc _).alloc _).less (by decide)⟩
  have X0 : Aside0 (((w.alloc (.cells #[.bool b0, .slice A n0 c, .int .i64 x0] 27)).alloc (.cells #[.int .i64 0, .bool false, .slice none 0 0, .int .i64 0] 82)).heap[w.heap.size]? = some (.cells #[.bool b0, .slice A n0 c, .int .i64 x0] 27 (0, 0))) := ⟨by have h := blk_new w (.cells #[.bool b0, .slice A n0 c, .int .i64 x0] 27); exact blk_alloc (h) _⟩
  have XR : Aside0 (((w.alloc (.cells #[.bool b0, .slice A n0 c, .int .i64 x0] 27)).alloc (.cells #[.int .i64 0, .bool false, .slice none 0 0, .int .i64 0] 82)).heap[w.heap.size + 1]? = some (.cells #[.int .i64 0, .bool false, .slice none 0 0, .int .i64 0] 82 (0, 0))) := ⟨by have h := blk_new (w.alloc (.cells #[.bool b0, .slice A n0 c, .int .i64 x0] 27)) (.cells #[.int .i64 0, .bool false, .slice none 0 0, .int .i64 0] 82); rw [size_alloc'] at h; exact h⟩
  obtain ⟨q0, q0'⟩ := box_cell X0.out 0 rfl
  obtain ⟨q1, q1'⟩ := box_cell X0.out 1 rfl
  obtain ⟨q2, q2'⟩ := box_cell X0.out 2 rfl
  go_wp2_with fail
  have BLW := BEL
  clear q0 q0' q1 q1' q2 q2'
  go_at_call 96
  refine (QT.out _ BEL.out.1).mono ?_
  rintro en1 w1 ⟨v1, rfl, hr, hb⟩
  replace BEL := Aside0.mk (BEL.out.next hb)
  replace X0 := Aside0.mk (blk_below X0.out hb)
  replace XR := Aside0.mk (blk_below XR.out hb)
  have P1 := Aside0.mk hr
  obtain ⟨b1, A1, n1, c1, x1, rfl⟩ := hr.ex
  clear hr hb
  have BELo := BEL
  go_wp2_with (first | (replace BEL := Aside0.mk ((BEL.out.alloc (.cells #[.bool false, .slice none 0 0, .int .i64 0] 27)).less (j := 2) (by omega)); have HN := Aside0.mk (blk_new w1 (.cells #[.bool false, .slice none 0 0, .int .i64 0] 27)); have L_X0 := lt_blk X0.out; replace X0 := Aside0.mk (blk_alloc X0.out (.cells #[.bool false, .slice none 0 0, .int .i64 0] 27)); have L_XR := lt_blk XR.out; replace XR := Aside0.mk (blk_alloc XR.out (.cells #[.bool false, .slice none 0 0, .int .i64 0] 27)); replace P1 := Aside0.mk (P1.out.below (below_alloc (Below.refl _ _) (.cells #[.bool false, .slice none 0 0, .int .i64 0] 27))); ((with_reducible refine gate_store (p := 4) rfl ?_); go_must (refine store_box 27 4 (.tmp 10) rfl rfl rfl (g := w1.heap.size) (e := 27) (.agg #[.bool b1, .slice A1 n1 c1, .int .i64 x1]) ([.bool b1, .slice A1 n1 c1, .int .i64 x1]) rfl rfl rfl info_dyad ?b1 HN.out rfl ?_; (case b1 => intro q hq; simp at hq; rcases hq with rfl | rfl | rfl <;> rfl); intro wb hbx hgx; have HX := Aside0.mk hbx; have HG := Aside0.mk hgx; clear hbx hgx)); replace P1 := Aside0.mk (P1.out.grown_box HN.out (by decide) HG.out); have LB_XL := BELo.out.2; replace BEL := Aside0.mk (BEL.out.grown HG.out (Nat.le_trans (Nat.le_add_right _ _) LB_XL)); replace X0 := Aside0.mk (blk_grown X0.out HG.out (Nat.ne_of_lt L_X0)); replace XR := Aside0.mk (blk_grown XR.out HG.out (Nat.ne_of_lt L_XR)); have NE_X0_XL := Aside0.mk (Nat.ne_of_lt L_X0); have NE_XR_XL := Aside0.mk (Nat.ne_of_lt L_XR); clear L_X0; clear L_XR; have LL_XL := Aside0.mk LB_XL; clear LB_XL; have XL := HX; clear HG HN HX; obtain ⟨q3, q3'⟩ := box_cell XL.out 0 rfl; obtain ⟨q4, q4'⟩ := box_cell XL.out 1 rfl; obtain ⟨q5, q5'⟩ := box_cell XL.out 2 rfl) | (clear q3 q3' q4 q4' q5 q5'; ((with_reducible refine gate_store (p := 2) rfl ?_); go_must (refine store_box 82 2 (.tmp 14) rfl rfl rfl (g := w.heap.size + 1) (e := 82) (.agg #[.int .i64 q, .bool b1, .slice A1 n1 c1, .int .i64 x1]) ([.int .i64 q, .bool b1, .slice A1 n1 c1, .int .i64 x1]) rfl rfl rfl info_spot ?b1 XR.out rfl ?_; (case b1 => intro q hq; simp at hq; rcases hq with rfl | rfl | rfl | rfl <;> rfl); intro wb hbx hgx; have HX := Aside0.mk hbx; have HG := Aside0.mk hgx; clear hbx hgx)); replace P1 := Aside0.mk (P1.out.grown_box XR.out (by decide) HG.out); replace BEL := Aside0.mk (BEL.out.grown HG.out (by omega)); replace X0 := Aside0.mk (blk_grown X0.out HG.out (by omega)); replace XL := Aside0.mk (blk_grown XL.out HG.out (Ne.symm NE_XR_XL.out)); replace XR := HX; clear HG))
  refine bodyPost_ret (results_spot rfl _ _ (w.heap.size + 1) _ rfl XR.out rfl) rfl ?_
  exact ⟨_, rfl, (PS.of P1.out).lower (Nat.le_trans (Nat.le_add_right _ _) BLW.out.2), BEL.out.1⟩

def sel (l0 l1 l2 l3 k : Int) : Int := if k = 0 then l0 else if k = 1 then l1 else if k = 2 then l2 else l3
set_option maxRecDepth 100000 in
set_option maxHeartbeats 8000000 in
theorem on_any {v : Value} {k r : Int} {b : Nat} {w : World} (l0 l1 l2 l3 : Int) (h : PS w b v k r (-1074)) (o : Ok r (-1074)) (hk : k = 0 ∨ k = 1 ∨ k = 2 ∨ k = 3)
    (e0 : l0.natAbs < 2 ^ 62) (e1 : l1.natAbs < 2 ^ 62) (e2 : l2.natAbs < 2 ^ 62) (e3 : l3.natAbs < 2 ^ 62) (hT : TabAt 0 Lib.deBruijn64tab w) :
    Calls Tryd.prog 85 #[v, .agg #[.int .i64 l0, .int .i64 l1, .int .i64 l2, .int .i64 l3]] w fun en w' => ∃ v', en = .returned v' ∧ PT w' w.heap.size v' (if r = 0 then sel l0 l1 l2 l3 k else 0) 0 (decide (r = 0)) ∧ Below w.heap.size w w' := by
  obtain ⟨b0, A, n0, c, x0, rfl⟩ := h.ex5
  have HT := Aside0.mk hT
  have OO := Aside0.mk o
  have E0 := Aside0.mk (And.intro (show -9223372036854775808 ≤ l0 by omega) (show l0 < 9223372036854775808 by omega))
  have E1 := Aside0.mk (And.intro (show -9223372036854775808 ≤ l1 by omega) (show l1 < 9223372036854775808 by omega))
  have E2 := Aside0.mk (And.intro (show -9223372036854775808 ≤ l2 by omega) (show l2 < 9223372036854775808 by omega))
  have E3 := Aside0.mk (And.intro (show -9223372036854775808 ≤ l3 by omega) (show l3 < 9223372036854775808 by omega))
  have HCD := Aside0.mk h.d.1.c
  clear h o hT e0 e1 e2 e3
  go_enter Tryd.func85, Tryd.ntmps85
  have BEL : Aside0 (BelN w 3 (((w.alloc (.cells #[.int .i64 k, .bool b0, .slice A n0 c, .int .i64 x0] 82)).alloc (.cells #[.int .i64 l0, .int .i64 l1, .int .i64 l2, .int .i64 l3] 101)).alloc (.cells #[.bool false, .slice none 0 0, .int .i64 0, .bool false] 51))) := ⟨((((BelN.zero w).alloc _).alloc _).alloc _).less (by decide)⟩
  have X0 : Aside0 ((((w.alloc (.cells #[.int .i64 k, .bool b0, .slice A n0 c, .int .i64 x0] 82)).alloc (.cells #[.int .i64 l0, .int .i64 l1, .int .i64 l2, .int .i64 l3] 101)).alloc (.cells #[.bool false, .slice none 0 0, .int .i64 0, .bool false] 51)).heap[w.heap.size]? = some (.cells #[.int .i64 k, .bool b0, .slice A n0 c, .int .i64 x0] 82 (0, 0))) := ⟨by have h := blk_new w (.cells #[.int .i64 k, .bool b0, .slice A n0 c, .int .i64 x0] 82); exact blk_alloc (blk_alloc (h) _) _⟩
  have XA : Aside0 ((((w.alloc (.cells #[.int .i64 k, .bool b0, .slice A n0 c, .int .i64 x0] 82)).alloc (.cells #[.int .i64 l0, .int .i64 l1, .int .i64 l2, .int .i64 l3] 101)).alloc (.cells #[.bool false, .slice none 0 0, .int .i64 0, .bool false] 51)).heap[w.heap.size + 1]? = some (.cells #[.int .i64 l0, .int .i64 l1, .int .i64 l2, .int .i64 l3] 101 (0, 0))) := ⟨by have h := blk_new (w.alloc (.cells #[.int .i64 k, .bool b0, .slice A n0 c, .int .i64 x0] 82)) (.cells #[.int .i64 l0, .int .i64 l1, .int .i64 l2, .int .i64 l3] 101); rw [size_alloc'] at h; exact blk_alloc (h) _⟩
  have XR : Aside0 ((((w.alloc (.cells #[.int .i64 k, .bool b0, .slice A n0 c, .int .i64 x0] 82)).alloc (.cells #[.int .i64 l0, .int .i64 l1, .int .i64 l2, .int .i64 l3] 101)).alloc (.cells #[.bool false, .slice none 0 0, .int .i64 0, .bool false] 51)).heap[w.heap.size + 1 + 1]? = some (.cells #[.bool false, .slice none 0 0, .int .i64 0, .bool false] 51 (0, 0))) := ⟨by have h := blk_new ((w.alloc (.cells #[.int .i64 k, .bool b0, .slice A n0 c, .int .i64 x0] 82)).alloc (.cells #[.int .i64 l0, .int .i64 l1, .int .i64 l2, .int .i64 l3] 101)) (.cells #[.bool false, .slice none 0 0, .int .i64 0, .bool false] 51); rw [size_alloc', size_alloc'] at h; exact h⟩
  obtain ⟨q0, q0'⟩ := box_cell X0.out 0 rfl
  obtain ⟨q1, q1'⟩ := box_cell X0.out 1 rfl
  obtain ⟨q2, q2'⟩ := box_cell X0.out 2 rfl
  obtain ⟨q3, q3'⟩ := box_cell X0.out 3 rfl
  obtain ⟨q4, q4'⟩ := box_cell XA.out 0 rfl
  obtain ⟨q5, q5'⟩ := box_cell XA.out 1 rfl
  obtain ⟨q6, q6'⟩ := box_cell XA.out 2 rfl
  obtain ⟨q7, q7'⟩ := box_cell XA.out 3 rfl
  go_wp2_with fail
  clear q0 q0' q1 q1' q2 q2' q3 q3' q4 q4' q5 q5' q6 q6' q7 q7'
  go_at_call 22
  refine (zero_ok (HCD.out.below BEL.out.1) OO.out).mono ?_
  rintro en1 w1 ⟨rfl, hb⟩
  replace BEL := Aside0.mk (BEL.out.next hb)
  replace X0 := Aside0.mk (blk_below X0.out hb)
  replace XA := Aside0.mk (blk_below XA.out hb)
  replace XR := Aside0.mk (blk_below XR.out hb)
  clear hb
  by_cases hr0 : r = 0
  case neg =>
    have hd : decide (r = 0) = false := decide_eq_false hr0
    go_wp2_with (((with_reducible refine gate_store (p := 4) rfl ?_); go_must (refine store_box 51 4 (.tmp 9) rfl rfl rfl (g := w.heap.size + 1 + 1) (e := 51) (.agg #[.bool false, .slice none 0 0, .int .i64 0, .bool false]) ([.bool false, .slice none 0 0, .int .i64 0, .bool false]) rfl rfl rfl info_told ?b1 XR.out rfl ?_; (case b1 => intro q hq; simp at hq; rcases hq with rfl | rfl | rfl | rfl <;> rfl); intro wb hbx hgx; have HX := Aside0.mk hbx; have HG := Aside0.mk hgx; clear hbx hgx)); replace BEL := Aside0.mk (BEL.out.grown HG.out (by omega)); replace X0 := Aside0.mk (blk_grown X0.out HG.out (by omega)); replace XA := Aside0.mk (blk_grown XA.out HG.out (by omega)); replace XR := HX; clear HG)
    refine bodyPost_ret (results_told rfl _ _ (w.heap.size + 1 + 1) _ rfl XR.out rfl) rfl ?_
    try rw [if_neg hr0, decide_eq_false hr0]
    exact ⟨_, rfl, PT.none _ _ _, BEL.out.1⟩
  case pos =>
    have hd : decide (r = 0) = true := decide_eq_true hr0
    rcases hk with rfl | rfl | rfl | rfl
    · skip
      obtain ⟨q8, q8'⟩ := box_cell X0.out 0 rfl
      obtain ⟨q9, q9'⟩ := box_cell X0.out 1 rfl
      obtain ⟨q10, q10'⟩ := box_cell X0.out 2 rfl
      obtain ⟨q11, q11'⟩ := box_cell X0.out 3 rfl
      obtain ⟨q12, q12'⟩ := box_cell XA.out 0 rfl
      obtain ⟨q13, q13'⟩ := box_cell XA.out 1 rfl
      obtain ⟨q14, q14'⟩ := box_cell XA.out 2 rfl
      obtain ⟨q15, q15'⟩ := box_cell XA.out 3 rfl
      go_wp2_with fail
      clear q8 q8' q9 q9' q10 q10' q11 q11' q12 q12' q13 q13' q14 q14' q15 q15'
      go_at_call 46
      refine (whole_any l0 _ E0.out.1 E0.out.2 (tab_below HT.out BEL.out.1)).mono ?_
      have BLW := BEL
      rintro en2 w2 ⟨v2, rfl, hr, hb⟩
      replace BEL := Aside0.mk (BEL.out.next hb)
      replace X0 := Aside0.mk (blk_below X0.out hb)
      replace XA := Aside0.mk (blk_below XA.out hb)
      replace XR := Aside0.mk (blk_below XR.out hb)
      have P1 := Aside0.mk hr
      obtain ⟨b2, A2, n2, c2, x2, rfl⟩ := hr.ex5
      clear hr hb
      go_wp2_with (((with_reducible refine gate_store (p := 4) rfl ?_); go_must (refine store_box 51 4 (.tmp 14) rfl rfl rfl (g := w.heap.size + 1 + 1) (e := 51) (.agg #[.bool b2, .slice A2 n2 c2, .int .i64 x2, .bool true]) ([.bool b2, .slice A2 n2 c2, .int .i64 x2, .bool true]) rfl rfl rfl info_told ?b1 XR.out rfl ?_; (case b1 => intro q hq; simp at hq; rcases hq with rfl | rfl | rfl | rfl <;> rfl); intro wb hbx hgx; have HX := Aside0.mk hbx; have HG := Aside0.mk hgx; clear hbx hgx)); replace P1 := Aside0.mk (P1.out.grown_box XR.out (by decide) HG.out); replace BEL := Aside0.mk (BEL.out.grown HG.out (by omega)); replace X0 := Aside0.mk (blk_grown X0.out HG.out (by omega)); replace XA := Aside0.mk (blk_grown XA.out HG.out (by omega)); replace XR := HX; clear HG)
      refine bodyPost_ret (results_told rfl _ _ (w.heap.size + 1 + 1) _ rfl XR.out rfl) rfl ?_
      try rw [if_pos hr0, decide_eq_true hr0]
      exact ⟨_, rfl, P1.out.lower (Nat.le_trans (Nat.le_add_right _ _) BLW.out.2), BEL.out.1⟩
    · skip
      obtain ⟨q8, q8'⟩ := box_cell X0.out 0 rfl
      obtain ⟨q9, q9'⟩ := box_cell X0.out 1 rfl
      obtain ⟨q10, q10'⟩ := box_cell X0.out 2 rfl
      obtain ⟨q11, q11'⟩ := box_cell X0.out 3 rfl
      obtain ⟨q12, q12'⟩ := box_cell XA.out 0 rfl
      obtain ⟨q13, q13'⟩ := box_cell XA.out 1 rfl
      obtain ⟨q14, q14'⟩ := box_cell XA.out 2 rfl
      obtain ⟨q15, q15'⟩ := box_cell XA.out 3 rfl
      go_wp2_with fail
      clear q8 q8' q9 q9' q10 q10' q11 q11' q12 q12' q13 q13' q14 q14' q15 q15'
      go_at_call 46
      refine (whole_any l1 _ E1.out.1 E1.out.2 (tab_below HT.out BEL.out.1)).mono ?_
      have BLW := BEL
      rintro en2 w2 ⟨v2, rfl, hr, hb⟩
      replace BEL := Aside0.mk (BEL.out.next hb)
      replace X0 := Aside0.mk (blk_below X0.out hb)
      replace XA := Aside0.mk (blk_below XA.out hb)
      replace XR := Aside0.mk (blk_below XR.out hb)
      have P1 := Aside0.mk hr
      obtain ⟨b2, A2, n2, c2, x2, rfl⟩ := hr.ex5
      clear hr hb
      go_wp2_with (((with_reducible refine gate_store (p := 4) rfl ?_); go_must (refine store_box 51 4 (.tmp 14) rfl rfl rfl (g := w.heap.size + 1 + 1) (e := 51) (.agg #[.bool b2, .slice A2 n2 c2, .int .i64 x2, .bool true]) ([.bool b2, .slice A2 n2 c2, .int .i64 x2, .bool true]) rfl rfl rfl info_told ?b1 XR.out rfl ?_; (case b1 => intro q hq; simp at hq; rcases hq with rfl | rfl | rfl | rfl <;> rfl); intro wb hbx hgx; have HX := Aside0.mk hbx; have HG := Aside0.mk hgx; clear hbx hgx)); replace P1 := Aside0.mk (P1.out.grown_box XR.out (by decide) HG.out); replace BEL := Aside0.mk (BEL.out.grown HG.out (by omega)); replace X0 := Aside0.mk (blk_grown X0.out HG.out (by omega)); replace XA := Aside0.mk (blk_grown XA.out HG.out (by omega)); replace XR := HX; clear HG)
      refine bodyPost_ret (results_told rfl _ _ (w.heap.size + 1 + 1) _ rfl XR.out rfl) rfl ?_
      try rw [if_pos hr0, decide_eq_true hr0]
      exact ⟨_, rfl, P1.out.lower (Nat.le_trans (Nat.le_add_right _ _) BLW.out.2), BEL.out.1⟩
    · skip
      obtain ⟨q8, q8'⟩ := box_cell X0.out 0 rfl
      obtain ⟨q9, q9'⟩ := box_cell X0.out 1 rfl
      obtain ⟨q10, q10'⟩ := box_cell X0.out 2 rfl
      obtain ⟨q11, q11'⟩ := box_cell X0.out 3 rfl
      obtain ⟨q12, q12'⟩ := box_cell XA.out 0 rfl
      obtain ⟨q13, q13'⟩ := box_cell XA.out 1 rfl
      obtain ⟨q14, q14'⟩ := box_cell XA.out 2 rfl
      obtain ⟨q15, q15'⟩ := box_cell XA.out 3 rfl
      go_wp2_with fail
      clear q8 q8' q9 q9' q10 q10' q11 q11' q12 q12' q13 q13' q14 q14' q15 q15'
      go_at_call 46
      refine (whole_any l2 _ E2.out.1 E2.out.2 (tab_below HT.out BEL.out.1)).mono ?_
      have BLW := BEL
      rintro en2 w2 ⟨v2, rfl, hr, hb⟩
      replace BEL := Aside0.mk (BEL.out.next hb)
      replace X0 := Aside0.mk (blk_below X0.out hb)
      replace XA := Aside0.mk (blk_below XA.out hb)
      replace XR := Aside0.mk (blk_below XR.out hb)
      have P1 := Aside0.mk hr
      obtain ⟨b2, A2, n2, c2, x2, rfl⟩ := hr.ex5
      clear hr hb
      go_wp2_with (((with_reducible refine gate_store (p := 4) rfl ?_); go_must (refine store_box 51 4 (.tmp 14) rfl rfl rfl (g := w.heap.size + 1 + 1) (e := 51) (.agg #[.bool b2, .slice A2 n2 c2, .int .i64 x2, .bool true]) ([.bool b2, .slice A2 n2 c2, .int .i64 x2, .bool true]) rfl rfl rfl info_told ?b1 XR.out rfl ?_; (case b1 => intro q hq; simp at hq; rcases hq with rfl | rfl | rfl | rfl <;> rfl); intro wb hbx hgx; have HX := Aside0.mk hbx; have HG := Aside0.mk hgx; clear hbx hgx)); replace P1 := Aside0.mk (P1.out.grown_box XR.out (by decide) HG.out); replace BEL := Aside0.mk (BEL.out.grown HG.out (by omega)); replace X0 := Aside0.mk (blk_grown X0.out HG.out (by omega)); replace XA := Aside0.mk (blk_grown XA.out HG.out (by omega)); replace XR := HX; clear HG)
      refine bodyPost_ret (results_told rfl _ _ (w.heap.size + 1 + 1) _ rfl XR.out rfl) rfl ?_
      try rw [if_pos hr0, decide_eq_true hr0]
      exact ⟨_, rfl, P1.out.lower (Nat.le_trans (Nat.le_add_right _ _) BLW.out.2), BEL.out.1⟩
    · skip
      obtain ⟨q8, q8'⟩ := box_cell X0.out 0 rfl
      obtain ⟨q9, q9'⟩ := box_cell X0.out 1 rfl
      obtain ⟨q10, q10'⟩ := box_cell X0.out 2 rfl
      obtain ⟨q11, q11'⟩ := box_cell X0.out 3 rfl
      obtain ⟨q12, q12'⟩ := box_cell XA.out 0 rfl
      obtain ⟨q13, q13'⟩ := box_cell XA.out 1 rfl
      obtain ⟨q14, q14'⟩ := box_cell XA.out 2 rfl
      obtain ⟨q15, q15'⟩ := box_cell XA.out 3 rfl
      go_wp2_with fail
      clear q8 q8' q9 q9' q10 q10' q11 q11' q12 q12' q13 q13' q14 q14' q15 q15'
      go_at_call 46
      refine (whole_any l3 _ E3.out.1 E3.out.2 (tab_below HT.out BEL.out.1)).mono ?_
      have BLW := BEL
      rintro en2 w2 ⟨v2, rfl, hr, hb⟩
      replace BEL := Aside0.mk (BEL.out.next hb)
      replace X0 := Aside0.mk (blk_below X0.out hb)
      replace XA := Aside0.mk (blk_below XA.out hb)
      replace XR := Aside0.mk (blk_below XR.out hb)
      have P1 := Aside0.mk hr
      obtain ⟨b2, A2, n2, c2, x2, rfl⟩ := hr.ex5
      clear hr hb
      go_wp2_with (((with_reducible refine gate_store (p := 4) rfl ?_); go_must (refine store_box 51 4 (.tmp 14) rfl rfl rfl (g := w.heap.size + 1 + 1) (e := 51) (.agg #[.bool b2, .slice A2 n2 c2, .int .i64 x2, .bool true]) ([.bool b2, .slice A2 n2 c2, .int .i64 x2, .bool true]) rfl rfl rfl info_told ?b1 XR.out rfl ?_; (case b1 => intro q hq; simp at hq; rcases hq with rfl | rfl | rfl | rfl <;> rfl); intro wb hbx hgx; have HX := Aside0.mk hbx; have HG := Aside0.mk hgx; clear hbx hgx)); replace P1 := Aside0.mk (P1.out.grown_box XR.out (by decide) HG.out); replace BEL := Aside0.mk (BEL.out.grown HG.out (by omega)); replace X0 := Aside0.mk (blk_grown X0.out HG.out (by omega)); replace XA := Aside0.mk (blk_grown XA.out HG.out (by omega)); replace XR := HX; clear HG)
      refine bodyPost_ret (results_told rfl _ _ (w.heap.size + 1 + 1) _ rfl XR.out rfl) rfl ?_
      try rw [if_pos hr0, decide_eq_true hr0]
      exact ⟨_, rfl, P1.out.lower (Nat.le_trans (Nat.le_add_right _ _) BLW.out.2), BEL.out.1⟩

set_option maxRecDepth 100000 in
set_option maxHeartbeats 8000000 in
theorem sine_any {v : Value} {k r : Int} {b : Nat} {w : World} (h : PS w b v k r (-1074)) (o : Ok r (-1074)) (hk : k = 0 ∨ k = 1 ∨ k = 2 ∨ k = 3) (hT : TabAt 0 Lib.deBruijn64tab w) :
    Calls Tryd.prog 57 #[v] w fun en w' => ∃ v', en = .returned v' ∧ PT w' w.heap.size v' (if r = 0 then sel 0 1 0 (-1) k else 0) 0 (decide (r = 0)) ∧ Below w.heap.size w w' := by
  obtain ⟨b0, A, n0, c, x0, rfl⟩ := h.ex5
  have QO := Aside0.mk (fun (W : World) (hb : Below w.heap.size w W) => on_any 0 1 0 (-1) (h.below hb) o hk (by decide) (by decide) (by decide) (by decide) (tab_below hT hb))
  clear h o hT hk
  generalize (if r = 0 then sel 0 1 0 (-1) k else 0) = q at *
  generalize decide (r = 0) = bq at *
  go_enter Tryd.func57, Tryd.ntmps57
  have BEL : Aside0 (BelN w 2 ((w.alloc (.cells #[.int .i64 k, .bool b0, .slice A n0 c, .int .i64 x0] 82)).alloc (.cells #[.bool false, .slice none 0 0, .int .i64 0, .bool false] 51))) := ⟨(((BelN.zero w).alloc _).alloc _).less (by decide)⟩
  have X0 : Aside0 (((w.alloc (.cells #[.int .i64 k, .bool b0, .slice A n0 c, .int .i64 x0] 82)).alloc (.cells #[.bool false, .slice none 0 0, .int .i64 0, .bool false] 51)).heap[w.heap.size]? = some (.cells #[.int .i64 k, .bool b0, .slice A n0 c, .int .i64 x0] 82 (0, 0))) := ⟨by have h := blk_new w (.cells #[.int .i64 k, .bool b0, .slice A n0 c, .int .i64 x0] 82); exact blk_alloc (h) _⟩
  have XR : Aside0 (((w.alloc (.cells #[.int .i64 k, .bool b0, .slice A n0 c, .int .i64 x0] 82)).alloc (.cells #[.bool false, .slice none 0 0, .int .i64 0, .bool false] 51)).heap[w.heap.size + 1]? = some (.cells #[.bool false, .slice none 0 0, .int .i64 0, .bool false] 51 (0, 0))) := ⟨by have h := blk_new (w.alloc (.cells #[.int .i64 k, .bool b0, .slice A n0 c, .int .i64 x0] 82)) (.cells #[.bool false, .slice none 0 0, .int .i64 0, .bool false] 51); rw [size_alloc'] at h; exact h⟩
  obtain ⟨q0, q0'⟩ := box_cell X0.out 0 rfl
  obtain ⟨q1, q1'⟩ := box_cell X0.out 1 rfl
  obtain ⟨q2, q2'⟩ := box_cell X0.out 2 rfl
  obtain ⟨q3, q3'⟩ := box_cell X0.out 3 rfl
  go_wp2_with fail
  have BLW := BEL
  clear q0 q0' q1 q1' q2 q2' q3 q3'
  go_at_call 85
  refine (QO.out _ BEL.out.1).mono ?_
  rintro en1 w1 ⟨v1, rfl, hr, hb⟩
  replace BEL := Aside0.mk (BEL.out.next hb)
  replace X0 := Aside0.mk (blk_below X0.out hb)
  replace XR := Aside0.mk (blk_below XR.out hb)
  have P1 := Aside0.mk hr
  obtain ⟨b1, A1, n1, c1, x1, rfl⟩ := hr.ex5
  clear hr hb
  go_wp2_with (((with_reducible refine gate_store (p := 2) rfl ?_); go_must (refine store_box 51 2 (.tmp 5) rfl rfl rfl (g := w.heap.size + 1) (e := 51) (.agg #[.bool b1, .slice A1 n1 c1, .int .i64 x1, .bool bq]) ([.bool b1, .slice A1 n1 c1, .int .i64 x1, .bool bq]) rfl rfl rfl info_told ?b1 XR.out rfl ?_; (case b1 => intro q hq; simp at hq; rcases hq with rfl | rfl | rfl | rfl <;> rfl); intro wb hbx hgx; have HX := Aside0.mk hbx; have HG := Aside0.mk hgx; clear hbx hgx)); replace P1 := Aside0.mk (P1.out.grown_box XR.out (by decide) HG.out); replace BEL := Aside0.mk (BEL.out.grown HG.out (by omega)); replace X0 := Aside0.mk (blk_grown X0.out HG.out (by omega)); replace XR := HX; clear HG)
  refine bodyPost_ret (results_told rfl _ _ (w.heap.size + 1) _ rfl XR.out rfl) rfl ?_
  exact ⟨_, rfl, P1.out.lower (Nat.le_trans (Nat.le_add_right _ _) BLW.out.2), BEL.out.1⟩

set_option maxRecDepth 100000 in
set_option maxHeartbeats 8000000 in
theorem cosine_any {v : Value} {k r : Int} {b : Nat} {w : World} (h : PS w b v k r (-1074)) (o : Ok r (-1074)) (hk : k = 0 ∨ k = 1 ∨ k = 2 ∨ k = 3) (hT : TabAt 0 Lib.deBruijn64tab w) :
    Calls Tryd.prog 58 #[v] w fun en w' => ∃ v', en = .returned v' ∧ PT w' w.heap.size v' (if r = 0 then sel 1 0 (-1) 0 k else 0) 0 (decide (r = 0)) ∧ Below w.heap.size w w' := by
  obtain ⟨b0, A, n0, c, x0, rfl⟩ := h.ex5
  have QO := Aside0.mk (fun (W : World) (hb : Below w.heap.size w W) => on_any 1 0 (-1) 0 (h.below hb) o hk (by decide) (by decide) (by decide) (by decide) (tab_below hT hb))
  clear h o hT hk
  generalize (if r = 0 then sel 1 0 (-1) 0 k else 0) = q at *
  generalize decide (r = 0) = bq at *
  go_enter Tryd.func58, Tryd.ntmps58
  have BEL : Aside0 (BelN w 2 ((w.alloc (.cells #[.int .i64 k, .bool b0, .slice A n0 c, .int .i64 x0] 82)).alloc (.cells #[.bool false, .slice none 0 0, .int .i64 0, .bool false] 51))) := ⟨(((BelN.zero w).alloc _).alloc _).less (by decide)⟩
  have X0 : Aside0 (((w.alloc (.cells #[.int .i64 k, .bool b0, .slice A n0 c, .int .i64 x0] 82)).alloc (.cells #[.bool false, .slice none 0 0, .int .i64 0, .bool false] 51)).heap[w.heap.size]? = some (.cells #[.int .i64 k, .bool b0, .slice A n0 c, .int .i64 x0] 82 (0, 0))) := ⟨by have h := blk_new w (.cells #[.int .i64 k, .bool b0, .slice A n0 c, .int .i64 x0] 82); exact blk_alloc (h) _⟩
  have XR : Aside0 (((w.alloc (.cells #[.int .i64 k, .bool b0, .slice A n0 c, .int .i64 x0] 82)).alloc (.cells #[.bool false, .slice none 0 0, .int .i64 0, .bool false] 51)).heap[w.heap.size + 1]? = some (.cells #[.bool false, .slice none 0 0, .int .i64 0, .bool false] 51 (0, 0))) := ⟨by have h := blk_new (w.alloc (.cells #[.int .i64 k, .bool b0, .slice A n0 c, .int .i64 x0] 82)) (.cells #[.bool false, .slice none 0 0, .int .i64 0, .bool false] 51); rw [size_alloc'] at h; exact h⟩
  obtain ⟨q0, q0'⟩ := box_cell X0.out 0 rfl
  obtain ⟨q1, q1'⟩ := box_cell X0.out 1 rfl
  obtain ⟨q2, q2'⟩ := box_cell X0.out 2 rfl
  obtain ⟨q3, q3'⟩ := box_cell X0.out 3 rfl
  go_wp2_with fail
  have BLW := BEL
  clear q0 q0' q1 q1' q2 q2' q3 q3'
  go_at_call 85
  refine (QO.out _ BEL.out.1).mono ?_
  rintro en1 w1 ⟨v1, rfl, hr, hb⟩
  replace BEL := Aside0.mk (BEL.out.next hb)
  replace X0 := Aside0.mk (blk_below X0.out hb)
  replace XR := Aside0.mk (blk_below XR.out hb)
  have P1 := Aside0.mk hr
  obtain ⟨b1, A1, n1, c1, x1, rfl⟩ := hr.ex5
  clear hr hb
  go_wp2_with (((with_reducible refine gate_store (p := 2) rfl ?_); go_must (refine store_box 51 2 (.tmp 5) rfl rfl rfl (g := w.heap.size + 1) (e := 51) (.agg #[.bool b1, .slice A1 n1 c1, .int .i64 x1, .bool bq]) ([.bool b1, .slice A1 n1 c1, .int .i64 x1, .bool bq]) rfl rfl rfl info_told ?b1 XR.out rfl ?_; (case b1 => intro q hq; simp at hq; rcases hq with rfl | rfl | rfl | rfl <;> rfl); intro wb hbx hgx; have HX := Aside0.mk hbx; have HG := Aside0.mk hgx; clear hbx hgx)); replace P1 := Aside0.mk (P1.out.grown_box XR.out (by decide) HG.out); replace BEL := Aside0.mk (BEL.out.grown HG.out (by omega)); replace X0 := Aside0.mk (blk_grown X0.out HG.out (by omega)); replace XR := HX; clear HG)
  refine bodyPost_ret (results_told rfl _ _ (w.heap.size + 1) _ rfl XR.out rfl) rfl ?_
  exact ⟨_, rfl, P1.out.lower (Nat.le_trans (Nat.le_add_right _ _) BLW.out.2), BEL.out.1⟩
end Go.Proofs.YtgpjplelgffocaaDoor

namespace Go.Proofs.YtgpjplelgffocaaDoor
open Go.RowKit Go.Proofs.YtgpjplelgffocaaDoorW.PrintWords Limb
set_option linter.unusedVariables false
set_option linter.unusedSimpArgs false

/-- What is told, if anything. -/
def PO (w : World) (b : Nat) (v : Value) (o : Option (Int × Int)) : Prop := PT w b v (o.getD (0, 0)).1 (o.getD (0, 0)).2 o.isSome
theorem PO.none (w : World) (b : Nat) : PO w b (.agg #[.bool false, .slice none 0 0, .int .i64 0, .bool false]) none := PT.none w b 0
theorem PO.below {w w1 : World} {b : Nat} {v : Value} {o : Option (Int × Int)} (h : PO w b v o) (hb : Below w.heap.size w w1) : PO w1 b v o := PT.below h hb
theorem PO.lower {w : World} {b b' : Nat} {v : Value} {o : Option (Int × Int)} (h : PO w b v o) (hb : b' ≤ b) : PO w b' v o := PT.lower h hb
theorem PO.grown_box {w w1 : World} {b g : Nat} {v : Value} {o : Option (Int × Int)} {t : TypeId} {cells : Array Value} (h : PO w b v o) (hb : w.heap[g]? = some (.cells cells t (0, 0))) (ht : 23 ≠ t) (hg : w.grownBy w1 (some g)) : PO w1 b v o := PT.grown_box h hb ht hg
theorem PO.ex {w : World} {b : Nat} {v : Value} {o : Option (Int × Int)} (h : PO w b v o) : ∃ bb A n c x b2, v = .agg #[.bool bb, .slice A n c, .int .i64 x, .bool b2] := PT.ex h
theorem PT.some {w : World} {b : Nat} {v : Value} {z e : Int} (h : PT w b v z e true) : PO w b v (some (z, e)) := h

def tanF (k r M : Int) : Option (Int × Int) :=
  if r = 0 then (if k.tmod 2 = 0 then some (0, 0) else none)
  else if (r.natAbs : Int) = M then (if (k.tmod 2 == 0) == decide (0 < r) then some (1, 0) else some (-1, 0)) else none
theorem sgn_pos (r : Int) : decide (0 < sgnI r) = decide (0 < r) := by
  unfold sgnI
  by_cases h : 0 < r
  · rw [decide_eq_true h]; repeat' split
    all_goals first | rfl | omega
  · rw [decide_eq_false h]; repeat' split
    all_goals first | rfl | omega
theorem tan_0 {k r M : Int} (h : r = 0) (hk : (k.tmod 2 == 0) = true) : tanF k r M = some (0, 0) := by
  unfold tanF; rw [if_pos h, if_pos (by simpa using hk)]
theorem tan_1 {k r M : Int} (h : r = 0) (hk : (k.tmod 2 == 0) = false) : tanF k r M = none := by
  unfold tanF; rw [if_pos h, if_neg (by simpa using hk)]
theorem tan_2 {k r M : Int} {p q : Bool} (h : ¬ r = 0) (h2 : (r.natAbs : Int) = M) (hk : (k.tmod 2 == 0) = p) (hr : decide (0 < sgnI r) = q) : tanF k r M = if p == q then some (1, 0) else some (-1, 0) := by
  unfold tanF; rw [if_neg h, if_pos h2, hk, ← sgn_pos, hr]
theorem tan_3 {k r M : Int} (h : ¬ r = 0) (h2 : ¬ (r.natAbs : Int) = M) : tanF k r M = none := by
  unfold tanF; rw [if_neg h, if_neg h2]

set_option maxRecDepth 100000 in
set_option maxHeartbeats 8000000 in
theorem tangent_any {v : Value} {k r : Int} {b : Nat} {w : World} (h : PS w b v k r (-1074)) (o : Ok r (-1074)) (oa : Ok (r.natAbs : Int) (-1074)) (hk : k = 0 ∨ k = 1 ∨ k = 2 ∨ k = 3) (hT : TabAt 0 Lib.deBruijn64tab w) :
    Calls Tryd.prog 59 #[v] w fun en w' => ∃ v', en = .returned v' ∧ PO w' w.heap.size v' (tanF k r (2 ^ 1072)) ∧ Below w.heap.size w w' := by
  obtain ⟨b0, A, n0, c, x0, rfl⟩ := h.ex5
  have HT := Aside0.mk hT
  have OO := Aside0.mk o
  have OA := Aside0.mk oa
  have HCD := Aside0.mk h.d.1.c
  obtain ⟨M, hM⟩ : ∃ M : Int, M = 2 ^ 1072 := ⟨_, rfl⟩
  have OM := Aside0.mk (Ok.of (z := 2 ^ 1072) (e := -1074) (1072 + 1) (sm_pow 1072) (by decide) (by decide) (by decide))
  have HP := Aside0.mk (fun (v : Value) (b : Nat) (W : World) (h : PDy W b v 1 (-2)) => (by
    have q := PDy.scale (e := -1074) 1072 h
    rw [Int.one_mul, ← hM] at q; exact q : PDy W b v M (-1074)))
  rw [← hM] at OM ⊢
  have HMP := Aside0.mk (show ¬ (0 : Int) = M by rw [hM]; exact fun h => absurd h.symm (Int.pow_ne_zero (by decide)))
  have HC : Aside0 ((cmpZ (r.natAbs : Int) M == 0) = decide ((r.natAbs : Int) = M)) := ⟨cmpZ_zero _ _⟩
  have HK := Aside0.mk hk
  obtain ⟨kev, hkev⟩ : ∃ p, (k.tmod 2 == 0) = p := ⟨_, rfl⟩
  obtain ⟨pos, hpos⟩ : ∃ p, decide (0 < sgnI r) = p := ⟨_, rfl⟩
  have hkw : wrap64 (k.tmod 2) = k.tmod 2 := by unfold wrap64; rcases hk with rfl | rfl | rfl | rfl <;> decide
  have HKE := Aside0.mk hkev
  have HPO := Aside0.mk hpos
  clear h o hT oa hk hM hkev hpos
  go_enter Tryd.func59, Tryd.ntmps59
  have BEL : Aside0 (BelN w 2 ((w.alloc (.cells #[.int .i64 k, .bool b0, .slice A n0 c, .int .i64 x0] 82)).alloc (.cells #[.bool false, .slice none 0 0, .int .i64 0, .bool false] 51))) := ⟨(((BelN.zero w).alloc _).alloc _).less (by decide)⟩
  have X0 : Aside0 (((w.alloc (.cells #[.int .i64 k, .bool b0, .slice A n0 c, .int .i64 x0] 82)).alloc (.cells #[.bool false, .slice none 0 0, .int .i64 0, .bool false] 51)).heap[w.heap.size]? = some (.cells #[.int .i64 k, .bool b0, .slice A n0 c, .int .i64 x0] 82 (0, 0))) := ⟨by have h := blk_new w (.cells #[.int .i64 k, .bool b0, .slice A n0 c, .int .i64 x0] 82); exact blk_alloc (h) _⟩
  have XR : Aside0 (((w.alloc (.cells #[.int .i64 k, .bool b0, .slice A n0 c, .int .i64 x0] 82)).alloc (.cells #[.bool false, .slice none 0 0, .int .i64 0, .bool false] 51)).heap[w.heap.size + 1]? = some (.cells #[.bool false, .slice none 0 0, .int .i64 0, .bool false] 51 (0, 0))) := ⟨by have h := blk_new (w.alloc (.cells #[.int .i64 k, .bool b0, .slice A n0 c, .int .i64 x0] 82)) (.cells #[.bool false, .slice none 0 0, .int .i64 0, .bool false] 51); rw [size_alloc'] at h; exact h⟩
  obtain ⟨q0, q0'⟩ := box_cell X0.out 0 rfl
  obtain ⟨q1, q1'⟩ := box_cell X0.out 1 rfl
  obtain ⟨q2, q2'⟩ := box_cell X0.out 2 rfl
  obtain ⟨q3, q3'⟩ := box_cell X0.out 3 rfl
  go_wp2_with fail
  clear q0 q0' q1 q1' q2 q2' q3 q3'
  go_at_call 49
  refine (abs_ok (HCD.out.below BEL.out.1) OO.out (tab_below HT.out BEL.out.1)).mono ?_
  rintro en1 w1 ⟨v1, rfl, hr, hb⟩
  replace BEL := Aside0.mk (BEL.out.next hb)
  replace X0 := Aside0.mk (blk_below X0.out hb)
  replace XR := Aside0.mk (blk_below XR.out hb)
  have P1 := Aside0.mk hr
  obtain ⟨b1, A1, n1, c1, x1, rfl⟩ := hr.ex
  clear hr hb
  go_wp2_with fail
  go_at_call 79
  refine (ppower_dy (-2) _).mono ?_
  rintro en2 w2 ⟨v2, rfl, hr, hb⟩
  replace BEL := Aside0.mk (BEL.out.next hb)
  replace X0 := Aside0.mk (blk_below X0.out hb)
  replace XR := Aside0.mk (blk_below XR.out hb)
  replace P1 := Aside0.mk (P1.out.below hb)
  have P2 := Aside0.mk hr
  obtain ⟨b2, A2, n2, c2, x2, rfl⟩ := hr.ex
  clear hr hb
  go_wp2_with fail
  go_at_call 48
  refine (cmp_ok P1.out.c (HP.out _ _ _ P2.out).c OA.out OM.out (tab_below HT.out BEL.out.1)).mono ?_
  rintro en3 w3 ⟨rfl, hb⟩
  replace BEL := Aside0.mk (BEL.out.next hb)
  replace X0 := Aside0.mk (blk_below X0.out hb)
  replace XR := Aside0.mk (blk_below XR.out hb)
  replace P1 := Aside0.mk (P1.out.below hb)
  replace P2 := Aside0.mk (P2.out.below hb)
  clear hb
  by_cases hq : (r.natAbs : Int) = M
  case neg =>
    have hcq : (cmpZ (r.natAbs : Int) M == 0) = false := HC.out.trans (decide_eq_false hq)
    have HQ := Aside0.mk hq
    clear hq
    obtain ⟨q4, q4'⟩ := box_cell X0.out 0 rfl
    obtain ⟨q5, q5'⟩ := box_cell X0.out 1 rfl
    obtain ⟨q6, q6'⟩ := box_cell X0.out 2 rfl
    obtain ⟨q7, q7'⟩ := box_cell X0.out 3 rfl
    go_wp2_with fail
    clear q4 q4' q5 q5' q6 q6' q7 q7'
    go_at_call 22
    refine (zero_ok (HCD.out.below BEL.out.1) OO.out).mono ?_
    rintro en4 w4 ⟨rfl, hb⟩
    replace BEL := Aside0.mk (BEL.out.next hb)
    replace X0 := Aside0.mk (blk_below X0.out hb)
    replace XR := Aside0.mk (blk_below XR.out hb)
    replace P1 := Aside0.mk (P1.out.below hb)
    replace P2 := Aside0.mk (P2.out.below hb)
    clear hb
    by_cases hr0 : r = 0
    case pos =>
      have hd : decide (r = 0) = true := decide_eq_true hr0
      have HR0 := Aside0.mk hr0
      clear hr0
      have hkev := HKE.out
      cases kev
      case true =>
        obtain ⟨q8, q8'⟩ := box_cell X0.out 0 rfl
        obtain ⟨q9, q9'⟩ := box_cell X0.out 1 rfl
        obtain ⟨q10, q10'⟩ := box_cell X0.out 2 rfl
        obtain ⟨q11, q11'⟩ := box_cell X0.out 3 rfl
        go_wp2_with fail
        have BLW := BEL
        clear q8 q8' q9 q9' q10 q10' q11 q11'
        go_at_call 46
        refine (whole_any (0) _ (by decide) (by decide) (tab_below HT.out BEL.out.1)).mono ?_
        rintro en5 w5 ⟨v5, rfl, hr, hb⟩
        replace BEL := Aside0.mk (BEL.out.next hb)
        replace X0 := Aside0.mk (blk_below X0.out hb)
        replace XR := Aside0.mk (blk_below XR.out hb)
        replace P1 := Aside0.mk (P1.out.below hb)
        replace P2 := Aside0.mk (P2.out.below hb)
        have P3 := Aside0.mk hr
        obtain ⟨b5, A5, n5, c5, x5, rfl⟩ := hr.ex5
        clear hr hb
        go_wp2_with (((with_reducible refine gate_store (p := 2) rfl ?_); go_must (refine store_box 51 2 (.tmp 20) rfl rfl rfl (g := w.heap.size + 1) (e := 51) (.agg #[.bool b5, .slice A5 n5 c5, .int .i64 x5, .bool true]) ([.bool b5, .slice A5 n5 c5, .int .i64 x5, .bool true]) rfl rfl rfl info_told ?b1 XR.out rfl ?_; (case b1 => intro q hq; simp at hq; rcases hq with rfl | rfl | rfl | rfl <;> rfl); intro wb hbx hgx; have HX := Aside0.mk hbx; have HG := Aside0.mk hgx; clear hbx hgx)); replace P1 := Aside0.mk (P1.out.grown_box XR.out (by decide) HG.out); replace P2 := Aside0.mk (P2.out.grown_box XR.out (by decide) HG.out); replace P3 := Aside0.mk (P3.out.grown_box XR.out (by decide) HG.out); replace BEL := Aside0.mk (BEL.out.grown HG.out (by omega)); replace X0 := Aside0.mk (blk_grown X0.out HG.out (by omega)); replace XR := HX; clear HG)
        refine bodyPost_ret (results_told rfl _ _ (w.heap.size + 1) _ rfl XR.out rfl) rfl ?_
        rw [tan_0 HR0.out HKE.out]
        exact ⟨_, rfl, P3.out.some.lower (Nat.le_trans (Nat.le_add_right _ _) BLW.out.2), BEL.out.1⟩
      case false =>
        obtain ⟨q8, q8'⟩ := box_cell X0.out 0 rfl
        obtain ⟨q9, q9'⟩ := box_cell X0.out 1 rfl
        obtain ⟨q10, q10'⟩ := box_cell X0.out 2 rfl
        obtain ⟨q11, q11'⟩ := box_cell X0.out 3 rfl
        go_wp2_with fail
        go_quiet (fail)
        clear q8 q8' q9 q9' q10 q10' q11 q11'
        replace BEL := Aside0.mk (BEL.out.next (quiet_below ⟨nq, rfl⟩))
        replace X0 := Aside0.mk (blk_below X0.out (quiet_below ⟨nq, rfl⟩))
        replace XR := Aside0.mk (blk_below XR.out (quiet_below ⟨nq, rfl⟩))
        replace P1 := Aside0.mk (P1.out.below (quiet_below ⟨nq, rfl⟩))
        replace P2 := Aside0.mk (P2.out.below (quiet_below ⟨nq, rfl⟩))
        go_wp2_with (((with_reducible refine gate_store (p := 2) rfl ?_); go_must (refine store_box 51 2 (.tmp 38) rfl rfl rfl (g := w.heap.size + 1) (e := 51) (.agg #[.bool false, .slice none 0 0, .int .i64 0, .bool false]) ([.bool false, .slice none 0 0, .int .i64 0, .bool false]) rfl rfl rfl info_told ?b1 XR.out rfl ?_; (case b1 => intro q hq; simp at hq; rcases hq with rfl | rfl | rfl | rfl <;> rfl); intro wb hbx hgx; have HX := Aside0.mk hbx; have HG := Aside0.mk hgx; clear hbx hgx)); replace P1 := Aside0.mk (P1.out.grown_box XR.out (by decide) HG.out); replace P2 := Aside0.mk (P2.out.grown_box XR.out (by decide) HG.out); replace BEL := Aside0.mk (BEL.out.grown HG.out (by omega)); replace X0 := Aside0.mk (blk_grown X0.out HG.out (by omega)); replace XR := HX; clear HG)
        refine bodyPost_ret (results_told rfl _ _ (w.heap.size + 1) _ rfl XR.out rfl) rfl ?_
        rw [tan_1 HR0.out HKE.out]
        exact ⟨_, rfl, PO.none _ _, BEL.out.1⟩
    case neg =>
      have hd : decide (r = 0) = false := decide_eq_false hr0
      have HR0 := Aside0.mk hr0
      clear hr0
      obtain ⟨q8, q8'⟩ := box_cell X0.out 0 rfl
      obtain ⟨q9, q9'⟩ := box_cell X0.out 1 rfl
      obtain ⟨q10, q10'⟩ := box_cell X0.out 2 rfl
      obtain ⟨q11, q11'⟩ := box_cell X0.out 3 rfl
      go_wp2_with fail
      go_quiet (fail)
      clear q8 q8' q9 q9' q10 q10' q11 q11'
      replace BEL := Aside0.mk (BEL.out.next (quiet_below ⟨nq, rfl⟩))
      replace X0 := Aside0.mk (blk_below X0.out (quiet_below ⟨nq, rfl⟩))
      replace XR := Aside0.mk (blk_below XR.out (quiet_below ⟨nq, rfl⟩))
      replace P1 := Aside0.mk (P1.out.below (quiet_below ⟨nq, rfl⟩))
      replace P2 := Aside0.mk (P2.out.below (quiet_below ⟨nq, rfl⟩))
      go_wp2_with (((with_reducible refine gate_store (p := 2) rfl ?_); go_must (refine store_box 51 2 (.tmp 38) rfl rfl rfl (g := w.heap.size + 1) (e := 51) (.agg #[.bool false, .slice none 0 0, .int .i64 0, .bool false]) ([.bool false, .slice none 0 0, .int .i64 0, .bool false]) rfl rfl rfl info_told ?b1 XR.out rfl ?_; (case b1 => intro q hq; simp at hq; rcases hq with rfl | rfl | rfl | rfl <;> rfl); intro wb hbx hgx; have HX := Aside0.mk hbx; have HG := Aside0.mk hgx; clear hbx hgx)); replace P1 := Aside0.mk (P1.out.grown_box XR.out (by decide) HG.out); replace P2 := Aside0.mk (P2.out.grown_box XR.out (by decide) HG.out); replace BEL := Aside0.mk (BEL.out.grown HG.out (by omega)); replace X0 := Aside0.mk (blk_grown X0.out HG.out (by omega)); replace XR := HX; clear HG)
      refine bodyPost_ret (results_told rfl _ _ (w.heap.size + 1) _ rfl XR.out rfl) rfl ?_
      rw [tan_3 HR0.out HQ.out]
      exact ⟨_, rfl, PO.none _ _, BEL.out.1⟩
  case pos =>
    have hcq : (cmpZ (r.natAbs : Int) M == 0) = true := HC.out.trans (decide_eq_true hq)
    have hr0 : ¬ r = 0 := fun h => HMP.out (by rw [← hq, h]; rfl)
    have hd : decide (r = 0) = false := decide_eq_false hr0
    have HQ := Aside0.mk hq
    have HR0 := Aside0.mk hr0
    clear hq hr0
    obtain ⟨q4, q4'⟩ := box_cell X0.out 0 rfl
    obtain ⟨q5, q5'⟩ := box_cell X0.out 1 rfl
    obtain ⟨q6, q6'⟩ := box_cell X0.out 2 rfl
    obtain ⟨q7, q7'⟩ := box_cell X0.out 3 rfl
    go_wp2_with fail
    clear q4 q4' q5 q5' q6 q6' q7 q7'
    go_at_call 22
    refine (zero_ok (HCD.out.below BEL.out.1) OO.out).mono ?_
    rintro en4 w4 ⟨rfl, hb⟩
    replace BEL := Aside0.mk (BEL.out.next hb)
    replace X0 := Aside0.mk (blk_below X0.out hb)
    replace XR := Aside0.mk (blk_below XR.out hb)
    replace P1 := Aside0.mk (P1.out.below hb)
    replace P2 := Aside0.mk (P2.out.below hb)
    clear hb
    go_upto_region 4 with fail
    obtain ⟨GM, hGM⟩ : ∃ G : (Nat → Prop) → (Nat → Value) → World → Prop, G = fun L v W => BelN w 2 W ∧ W.heap[w.heap.size]? = some (.cells #[.int .i64 k, .bool b0, .slice A n0 c, .int .i64 x0] 82 (0, 0)) ∧ W.heap[w.heap.size + 1]? = some (.cells #[.bool false, .slice none 0 0, .int .i64 0, .bool false] 51 (0, 0)) ∧ (L 0 → (v 0) = .bool true) ∧ (L 1 → (v 1) = .bool true) ∧ (L 2 → (v 2) = .pointer (some ⟨w.heap.size, 0, none⟩)) ∧ (L 3 → (v 3) = .int .i64 k) ∧ (L 4 → (v 4) = .int .i64 (k.tmod 2)) ∧ (L 5 → (v 5) = .bool kev) ∧ (L 6 → (v 6) = .pointer (some ⟨w.heap.size, 1, none⟩)) ∧ (L 7 → (v 7) = .agg #[.bool b0, .slice A n0 c, .int .i64 x0]) ∧ (L 8 → (v 8) = .int .i64 (sgnI r)) ∧ (L 9 → (v 9) = .bool pos) ∧ (L 10 → (v 10) = .bool (kev == pos)) ∧ (L 11 → (v 11) = .bool (kev == pos)) ∧ (L 12 → (v 12) = .bool (kev == pos)) := ⟨_, rfl⟩
    refine wp_region_slotsV [22, 23, 24, 25, 26, 27, 28, 29, 30, 31, 32, 33, 21] (by kernel_rfl) (by kernel_rfl) (G := GM) ?h0M ?hstepM ?hendM
    case h0M =>
      intro v; rw [hGM]
      exact ⟨BEL.out.next (below_drew (Below.refl _ _)), blk_drew X0.out, blk_drew XR.out, fun h => h.elim, fun h => h.elim, fun h => h.elim, fun h => h.elim, fun h => h.elim, fun h => h.elim, fun h => h.elim, fun h => h.elim, fun h => h.elim, fun h => h.elim, fun h => h.elim, fun h => h.elim, fun h => h.elim⟩
    case hstepM =>
      intro k o ho v W L hGv hnk haft hcl K hK
      rw [hGM] at hGv
      obtain ⟨hB, hb0, hb1, f0, f1, f2, f3, f4, f5, f6, f7, f8, f9, f10, f11, f12⟩ := hGv
      rcases k with _ | _ | _ | _ | _ | _ | _ | _ | _ | _ | _ | _ | _ | k
      all_goals first
        | (cases ho; done)
        | (obtain rfl := (Option.some.inj ho).symm
           clear ho
           simp only [setAll, List.setIfInBounds_toArray, List.set_cons_zero, List.set_cons_succ, List.set_nil, List.getElem_toArray, List.getElem_cons_zero, List.getElem_cons_succ, Nat.reduceAdd] at haft hK ⊢)
      case zero =>
        rw [if_pos (by rfl)]
        have hb := Below.refl W.heap.size W
        have key := hK.out (.bool true) W (by rw [hGM]; exact ⟨hB.next hb, blk_below hb0 hb, blk_below hb1 hb, fun _ => by rw [upd_eq], (kv f1 (by decide)), (kv f2 (by decide)), (kv f3 (by decide)), (kv f4 (by decide)), (kv f5 (by decide)), (kv f6 (by decide)), (kv f7 (by decide)), (kv f8 (by decide)), (kv f9 (by decide)), (kv f10 (by decide)), (kv f11 (by decide)), (kv f12 (by decide))⟩)
        clear hb0 hb1 f0 f1 f2 f3 f4 f5 f6 f7 f8 f9 f10 f11 f12 hb hK
        go_simp
        simpa [upd] using key
      case succ.zero =>
        have d0 := f0 (haft { on := 0, ground := .data } (by simp) rfl)
        have D0 := d0
        rw [if_pos (by rfl)]
        have hb := Below.refl W.heap.size W
        have key := hK.out (.bool true) W (by rw [hGM]; exact ⟨hB.next hb, blk_below hb0 hb, blk_below hb1 hb, (kv f0 (by decide)), fun _ => by rw [upd_eq], (kv f2 (by decide)), (kv f3 (by decide)), (kv f4 (by decide)), (kv f5 (by decide)), (kv f6 (by decide)), (kv f7 (by decide)), (kv f8 (by decide)), (kv f9 (by decide)), (kv f10 (by decide)), (kv f11 (by decide)), (kv f12 (by decide))⟩)
        clear hb0 hb1 f0 f1 f2 f3 f4 f5 f6 f7 f8 f9 f10 f11 f12 hb hK
        go_simp
        simpa [upd, D0] using key
      case succ.succ.zero =>
        have dg := f1 (haft { on := 1, ground := .guard } (by simp) rfl)
        rw [if_pos (by simp [Region.wanted, yielded, dg])]
        have hb := Below.refl W.heap.size W
        have key := hK.out (.pointer (some ⟨w.heap.size, 0, none⟩)) W (by rw [hGM]; exact ⟨hB.next hb, blk_below hb0 hb, blk_below hb1 hb, (kv f0 (by decide)), (kv f1 (by decide)), fun _ => by rw [upd_eq], (kv f3 (by decide)), (kv f4 (by decide)), (kv f5 (by decide)), (kv f6 (by decide)), (kv f7 (by decide)), (kv f8 (by decide)), (kv f9 (by decide)), (kv f10 (by decide)), (kv f11 (by decide)), (kv f12 (by decide))⟩)
        clear hb0 hb1 f0 f1 f2 f3 f4 f5 f6 f7 f8 f9 f10 f11 f12 hb hK
        go_simp
        simpa [upd, dg] using key
      case succ.succ.succ.zero =>
        have d2 := f2 (haft { on := 2, ground := .data } (by simp) rfl)
        have D2 := d2
        have dg := f1 (haft { on := 1, ground := .guard } (by simp) rfl)
        rw [if_pos (by simp [Region.wanted, yielded, dg])]
        have cc0 := (box_cell (v := .int .i64 k) hb0 0 rfl).1
        have cc1 := (box_cell (v := .bool b0) hb0 1 rfl).1
        have cc2 := (box_cell (v := .slice A n0 c) hb0 2 rfl).1
        have cc3 := (box_cell (v := .int .i64 x0) hb0 3 rfl).1
        have hb := Below.refl W.heap.size W
        have key := hK.out (.int .i64 k) W (by rw [hGM]; exact ⟨hB.next hb, blk_below hb0 hb, blk_below hb1 hb, (kv f0 (by decide)), (kv f1 (by decide)), (kv f2 (by decide)), fun _ => by rw [upd_eq], (kv f4 (by decide)), (kv f5 (by decide)), (kv f6 (by decide)), (kv f7 (by decide)), (kv f8 (by decide)), (kv f9 (by decide)), (kv f10 (by decide)), (kv f11 (by decide)), (kv f12 (by decide))⟩)
        clear hb0 hb1 f0 f1 f2 f3 f4 f5 f6 f7 f8 f9 f10 f11 f12 hb hK
        go_simp
        simpa [upd, D2, dg] using key
      case succ.succ.succ.succ.zero =>
        have d3 := f3 (haft { on := 3, ground := .data } (by simp) rfl)
        have D3 := d3
        have dg := f1 (haft { on := 1, ground := .guard } (by simp) rfl)
        rw [if_pos (by simp [Region.wanted, yielded, dg])]
        have hb := Below.refl W.heap.size W
        have key := hK.out (.int .i64 (k.tmod 2)) W (by rw [hGM]; exact ⟨hB.next hb, blk_below hb0 hb, blk_below hb1 hb, (kv f0 (by decide)), (kv f1 (by decide)), (kv f2 (by decide)), (kv f3 (by decide)), fun _ => by rw [upd_eq], (kv f5 (by decide)), (kv f6 (by decide)), (kv f7 (by decide)), (kv f8 (by decide)), (kv f9 (by decide)), (kv f10 (by decide)), (kv f11 (by decide)), (kv f12 (by decide))⟩)
        clear hb0 hb1 f0 f1 f2 f3 f4 f5 f6 f7 f8 f9 f10 f11 f12 hb hK
        go_simp
        simpa [upd, D3, dg] using key
      case succ.succ.succ.succ.succ.zero =>
        have d4 := f4 (haft { on := 4, ground := .data } (by simp) rfl)
        have D4 := d4
        have dg := f1 (haft { on := 1, ground := .guard } (by simp) rfl)
        rw [if_pos (by simp [Region.wanted, yielded, dg])]
        have hkev := HKE.out
        have hb := Below.refl W.heap.size W
        have key := hK.out (.bool kev) W (by rw [hGM]; exact ⟨hB.next hb, blk_below hb0 hb, blk_below hb1 hb, (kv f0 (by decide)), (kv f1 (by decide)), (kv f2 (by decide)), (kv f3 (by decide)), (kv f4 (by decide)), fun _ => by rw [upd_eq], (kv f6 (by decide)), (kv f7 (by decide)), (kv f8 (by decide)), (kv f9 (by decide)), (kv f10 (by decide)), (kv f11 (by decide)), (kv f12 (by decide))⟩)
        clear hb0 hb1 f0 f1 f2 f3 f4 f5 f6 f7 f8 f9 f10 f11 f12 hb hK
        go_simp
        simpa [upd, D4, dg] using key
      case succ.succ.succ.succ.succ.succ.zero =>
        have dg := f1 (haft { on := 1, ground := .guard } (by simp) rfl)
        rw [if_pos (by simp [Region.wanted, yielded, dg])]
        have hb := Below.refl W.heap.size W
        have key := hK.out (.pointer (some ⟨w.heap.size, 1, none⟩)) W (by rw [hGM]; exact ⟨hB.next hb, blk_below hb0 hb, blk_below hb1 hb, (kv f0 (by decide)), (kv f1 (by decide)), (kv f2 (by decide)), (kv f3 (by decide)), (kv f4 (by decide)), (kv f5 (by decide)), fun _ => by rw [upd_eq], (kv f7 (by decide)), (kv f8 (by decide)), (kv f9 (by decide)), (kv f10 (by decide)), (kv f11 (by decide)), (kv f12 (by decide))⟩)
        clear hb0 hb1 f0 f1 f2 f3 f4 f5 f6 f7 f8 f9 f10 f11 f12 hb hK
        go_simp
        simpa [upd, dg] using key
      case succ.succ.succ.succ.succ.succ.succ.zero =>
        have d6 := f6 (haft { on := 6, ground := .data } (by simp) rfl)
        have D6 := d6
        have dg := f1 (haft { on := 1, ground := .guard } (by simp) rfl)
        rw [if_pos (by simp [Region.wanted, yielded, dg])]
        have cc0 := (box_cell (v := .int .i64 k) hb0 0 rfl).1
        have cc1 := (box_cell (v := .bool b0) hb0 1 rfl).1
        have cc2 := (box_cell (v := .slice A n0 c) hb0 2 rfl).1
        have cc3 := (box_cell (v := .int .i64 x0) hb0 3 rfl).1
        have hb := Below.refl W.heap.size W
        have key := hK.out (.agg #[.bool b0, .slice A n0 c, .int .i64 x0]) W (by rw [hGM]; exact ⟨hB.next hb, blk_below hb0 hb, blk_below hb1 hb, (kv f0 (by decide)), (kv f1 (by decide)), (kv f2 (by decide)), (kv f3 (by decide)), (kv f4 (by decide)), (kv f5 (by decide)), (kv f6 (by decide)), fun _ => by rw [upd_eq], (kv f8 (by decide)), (kv f9 (by decide)), (kv f10 (by decide)), (kv f11 (by decide)), (kv f12 (by decide))⟩)
        clear hb0 hb1 f0 f1 f2 f3 f4 f5 f6 f7 f8 f9 f10 f11 f12 hb hK
        go_simp
        simpa [upd, D6, dg] using key
      case succ.succ.succ.succ.succ.succ.succ.succ.zero =>
        have d7 := f7 (haft { on := 7, ground := .data } (by simp) rfl)
        have D7 := d7
        have dg := f1 (haft { on := 1, ground := .guard } (by simp) rfl)
        rw [if_pos (by simp [Region.wanted, yielded, dg])]
        have HALL := Aside0.mk (And.intro hK (And.intro hB (And.intro hb0 ( And.intro hb1 ( And.intro f0 ( And.intro f1 ( And.intro f2 ( And.intro f3 ( And.intro f4 ( And.intro f5 ( And.intro f6 ( And.intro f7 ( And.intro f8 ( And.intro f9 ( And.intro f10 ( And.intro f11 ( And.intro f12 (True.intro))))))))))))))))))
        clear hK hb0 hb1 f0 f1 f2 f3 f4 f5 f6 f7 f8 f9 f10 f11 f12
        go_simp
        go_at_call 45
        refine (sign_ok (HCD.out.below hB.1) OO.out).mono ?_
        rintro en w4 ⟨rfl, hb⟩
        obtain ⟨hK, hB, hb0, hb1, f0, f1, f2, f3, f4, f5, f6, f7, f8, f9, f10, f11, f12, _⟩ := HALL.out
        have key := hK.out (.int .i64 (sgnI r)) w4 (by rw [hGM]; exact ⟨hB.next hb, blk_below hb0 hb, blk_below hb1 hb, (kv f0 (by decide)), (kv f1 (by decide)), (kv f2 (by decide)), (kv f3 (by decide)), (kv f4 (by decide)), (kv f5 (by decide)), (kv f6 (by decide)), (kv f7 (by decide)), fun _ => by rw [upd_eq], (kv f9 (by decide)), (kv f10 (by decide)), (kv f11 (by decide)), (kv f12 (by decide))⟩)
        clear hb0 hb1 f0 f1 f2 f3 f4 f5 f6 f7 f8 f9 f10 f11 f12 hK HALL
        simpa [upd, D7, dg] using key
      case succ.succ.succ.succ.succ.succ.succ.succ.succ.zero =>
        have d8 := f8 (haft { on := 8, ground := .data } (by simp) rfl)
        have D8 := d8
        have dg := f1 (haft { on := 1, ground := .guard } (by simp) rfl)
        rw [if_pos (by simp [Region.wanted, yielded, dg])]
        have hpos := HPO.out
        have hb := Below.refl W.heap.size W
        have key := hK.out (.bool pos) W (by rw [hGM]; exact ⟨hB.next hb, blk_below hb0 hb, blk_below hb1 hb, (kv f0 (by decide)), (kv f1 (by decide)), (kv f2 (by decide)), (kv f3 (by decide)), (kv f4 (by decide)), (kv f5 (by decide)), (kv f6 (by decide)), (kv f7 (by decide)), (kv f8 (by decide)), fun _ => by rw [upd_eq], (kv f10 (by decide)), (kv f11 (by decide)), (kv f12 (by decide))⟩)
        clear hb0 hb1 f0 f1 f2 f3 f4 f5 f6 f7 f8 f9 f10 f11 f12 hb hK
        go_simp
        simpa [upd, D8, dg] using key
      case succ.succ.succ.succ.succ.succ.succ.succ.succ.succ.zero =>
        have d5 := f5 (haft { on := 5, ground := .data } (by simp) rfl)
        have D5 := d5
        have d9 := f9 (haft { on := 9, ground := .data } (by simp) rfl)
        have D9 := d9
        have dg := f1 (haft { on := 1, ground := .guard } (by simp) rfl)
        rw [if_pos (by simp [Region.wanted, yielded, dg])]
        have hb := Below.refl W.heap.size W
        have key := hK.out (.bool (kev == pos)) W (by rw [hGM]; exact ⟨hB.next hb, blk_below hb0 hb, blk_below hb1 hb, (kv f0 (by decide)), (kv f1 (by decide)), (kv f2 (by decide)), (kv f3 (by decide)), (kv f4 (by decide)), (kv f5 (by decide)), (kv f6 (by decide)), (kv f7 (by decide)), (kv f8 (by decide)), (kv f9 (by decide)), fun _ => by rw [upd_eq], (kv f11 (by decide)), (kv f12 (by decide))⟩)
        clear hb0 hb1 f0 f1 f2 f3 f4 f5 f6 f7 f8 f9 f10 f11 f12 hb hK
        go_simp
        simpa [upd, D5, D9, dg] using key
      case succ.succ.succ.succ.succ.succ.succ.succ.succ.succ.succ.zero =>
        have d1 := f1 (haft { on := 1, ground := .data } (by simp) rfl)
        have D1 := d1
        have d10 := f10 (haft { on := 10, ground := .data } (by simp) rfl)
        have D10 := d10
        rw [if_pos (by rfl)]
        have hb := Below.refl W.heap.size W
        have key := hK.out (.bool (kev == pos)) W (by rw [hGM]; exact ⟨hB.next hb, blk_below hb0 hb, blk_below hb1 hb, (kv f0 (by decide)), (kv f1 (by decide)), (kv f2 (by decide)), (kv f3 (by decide)), (kv f4 (by decide)), (kv f5 (by decide)), (kv f6 (by decide)), (kv f7 (by decide)), (kv f8 (by decide)), (kv f9 (by decide)), (kv f10 (by decide)), fun _ => by rw [upd_eq], (kv f12 (by decide))⟩)
        clear hb0 hb1 f0 f1 f2 f3 f4 f5 f6 f7 f8 f9 f10 f11 f12 hb hK
        go_simp
        simpa [upd, D1, D10] using key
      case succ.succ.succ.succ.succ.succ.succ.succ.succ.succ.succ.succ.zero =>
        have d11 := f11 (haft { on := 11, ground := .data } (by simp) rfl)
        have D11 := d11
        rw [if_pos (by rfl)]
        have hb := Below.refl W.heap.size W
        have key := hK.out (.bool (kev == pos)) W (by rw [hGM]; exact ⟨hB.next hb, blk_below hb0 hb, blk_below hb1 hb, (kv f0 (by decide)), (kv f1 (by decide)), (kv f2 (by decide)), (kv f3 (by decide)), (kv f4 (by decide)), (kv f5 (by decide)), (kv f6 (by decide)), (kv f7 (by decide)), (kv f8 (by decide)), (kv f9 (by decide)), (kv f10 (by decide)), (kv f11 (by decide)), fun _ => by rw [upd_eq]⟩)
        clear hb0 hb1 f0 f1 f2 f3 f4 f5 f6 f7 f8 f9 f10 f11 f12 hb hK
        go_simp
        simpa [upd, D11] using key
    case hendM =>
      intro v W L0 hall hGv
      rw [hGM] at hGv
      obtain ⟨hB, hb0, hb1, f0, f1, f2, f3, f4, f5, f6, f7, f8, f9, f10, f11, f12⟩ := hGv
      have d12 := f12 (hall 12 (by decide))
      replace BEL := Aside0.mk hB
      replace X0 := Aside0.mk hb0
      replace XR := Aside0.mk hb1
      clear hall f0 f1 f2 f3 f4 f5 f6 f7 f8 f9 f10 f11 f12 hB hb0 hb1 P1 P2
      simp only [setAll, List.setIfInBounds_toArray, List.set_cons_zero, List.set_cons_succ, Nat.reduceAdd, d12]
      clear d12
      cases hkp : kev == pos
      case true =>
        have HKP := Aside0.mk hkp
        clear hkp
        go_wp2_with fail
        have BLW := BEL
        go_at_call 46
        refine (whole_any (1) _ (by decide) (by decide) (tab_below HT.out BEL.out.1)).mono ?_
        rintro en21 w21 ⟨v21, rfl, hr, hb⟩
        replace BEL := Aside0.mk (BEL.out.next hb)
        replace X0 := Aside0.mk (blk_below X0.out hb)
        replace XR := Aside0.mk (blk_below XR.out hb)
        have P3 := Aside0.mk hr
        obtain ⟨b21, A21, n21, c21, x21, rfl⟩ := hr.ex5
        clear hr hb
        go_wp2_with (((with_reducible refine gate_store (p := 2) rfl ?_); go_must (refine store_box 51 2 (.tmp 34) rfl rfl rfl (g := w.heap.size + 1) (e := 51) (.agg #[.bool b21, .slice A21 n21 c21, .int .i64 x21, .bool true]) ([.bool b21, .slice A21 n21 c21, .int .i64 x21, .bool true]) rfl rfl rfl info_told ?b1 XR.out rfl ?_; (case b1 => intro q hq; simp at hq; rcases hq with rfl | rfl | rfl | rfl <;> rfl); intro wb hbx hgx; have HX := Aside0.mk hbx; have HG := Aside0.mk hgx; clear hbx hgx)); replace P3 := Aside0.mk (P3.out.grown_box XR.out (by decide) HG.out); replace BEL := Aside0.mk (BEL.out.grown HG.out (by omega)); replace X0 := Aside0.mk (blk_grown X0.out HG.out (by omega)); replace XR := HX; clear HG)
        refine bodyPost_ret (results_told rfl _ _ (w.heap.size + 1) _ rfl XR.out rfl) rfl ?_
        rw [tan_2 HR0.out HQ.out HKE.out HPO.out, HKP.out]
        exact ⟨_, rfl, P3.out.some.lower (Nat.le_trans (Nat.le_add_right _ _) BLW.out.2), BEL.out.1⟩
      case false =>
        have HKP := Aside0.mk hkp
        clear hkp
        go_wp2_with fail
        have BLW := BEL
        go_at_call 46
        refine (whole_any (-1) _ (by decide) (by decide) (tab_below HT.out BEL.out.1)).mono ?_
        rintro en21 w21 ⟨v21, rfl, hr, hb⟩
        replace BEL := Aside0.mk (BEL.out.next hb)
        replace X0 := Aside0.mk (blk_below X0.out hb)
        replace XR := Aside0.mk (blk_below XR.out hb)
        have P3 := Aside0.mk hr
        obtain ⟨b21, A21, n21, c21, x21, rfl⟩ := hr.ex5
        clear hr hb
        go_wp2_with (((with_reducible refine gate_store (p := 2) rfl ?_); go_must (refine store_box 51 2 (.tmp 37) rfl rfl rfl (g := w.heap.size + 1) (e := 51) (.agg #[.bool b21, .slice A21 n21 c21, .int .i64 x21, .bool true]) ([.bool b21, .slice A21 n21 c21, .int .i64 x21, .bool true]) rfl rfl rfl info_told ?b1 XR.out rfl ?_; (case b1 => intro q hq; simp at hq; rcases hq with rfl | rfl | rfl | rfl <;> rfl); intro wb hbx hgx; have HX := Aside0.mk hbx; have HG := Aside0.mk hgx; clear hbx hgx)); replace P3 := Aside0.mk (P3.out.grown_box XR.out (by decide) HG.out); replace BEL := Aside0.mk (BEL.out.grown HG.out (by omega)); replace X0 := Aside0.mk (blk_grown X0.out HG.out (by omega)); replace XR := HX; clear HG)
        refine bodyPost_ret (results_told rfl _ _ (w.heap.size + 1) _ rfl XR.out rfl) rfl ?_
        rw [tan_2 HR0.out HQ.out HKE.out HPO.out, HKP.out]
        exact ⟨_, rfl, P3.out.some.lower (Nat.le_trans (Nat.le_add_right _ _) BLW.out.2), BEL.out.1⟩
end Go.Proofs.YtgpjplelgffocaaDoor

namespace Go.Proofs.YtgpjplelgffocaaDoor
open Go.RowKit Go.Proofs.YtgpjplelgffocaaDoorW.PrintWords Limb
set_option linter.unusedVariables false
set_option linter.unusedSimpArgs false

/-- A number, in units of 1/M, as a whole one from lo to hi. -/
def smallF (M z lo hi : Int) : Option Int := if z % M = 0 ∧ lo * M ≤ z ∧ z ≤ hi * M then some (z / M) else none
theorem cmpZ_dlt (y z : Int) : decide (cmpZ y z < 0) = decide (y < z) := by
  unfold cmpZ
  by_cases h : y < z
  · rw [decide_eq_true h]; repeat' split
    all_goals first | rfl | omega
  · rw [decide_eq_false h]; repeat' split
    all_goals first | rfl | omega
theorem cmpZ_dgt (y z : Int) : decide (0 < cmpZ y z) = decide (z < y) := by
  unfold cmpZ
  by_cases h : z < y
  · rw [decide_eq_true h]; repeat' split
    all_goals first | rfl | omega
  · rw [decide_eq_false h]; repeat' split
    all_goals first | rfl | omega
theorem small_z {M lo hi : Int} : smallF M 0 lo hi = if lo * M ≤ 0 ∧ 0 ≤ hi * M then some 0 else none := by
  unfold smallF; simp
/-- A number that is no whole one. -/
theorem small_part {z lo hi : Int} {N : Nat} (h0 : z ≠ 0) (h : cexp z (-(N : Int)) < 0) : smallF (2 ^ N) z lo hi = none := by
  unfold smallF
  rw [if_neg]
  rintro ⟨h1, -, -⟩
  obtain ⟨k, e1, e2, e3⟩ := of_form (e := -(N : Int)) h0
  have hk : k < N := by omega
  obtain ⟨q, hq⟩ := Int.dvd_of_emod_eq_zero h1
  have h2 : z.natAbs = 2 ^ N * q.natAbs := by rw [hq, Int.natAbs_mul, Int.natAbs_pow]; rfl
  have h3 : z.natAbs = cman z * 2 ^ k := by
    have := congrArg Int.natAbs e2
    rw [sgn_abs] at this; exact this
  obtain ⟨j, hj⟩ : ∃ j, N = k + 1 + j := ⟨N - (k + 1), by omega⟩
  have h4 : cman z * 2 ^ k = (2 ^ (1 + j) * q.natAbs) * 2 ^ k := by
    rw [← h3, h2, hj, Nat.pow_add, Nat.pow_add, Nat.pow_add]
    simp only [Nat.mul_comm, Nat.mul_left_comm, Nat.mul_assoc]
  have h5 := Nat.eq_of_mul_eq_mul_right (Nat.two_pow_pos k) h4
  have h6 := cman_odd h0
  rw [h5, Nat.pow_add, Nat.mul_assoc] at h6
  omega
/-- A whole number. -/
theorem small_whole {z : Int} {N : Nat} (h0 : z ≠ 0) (h : ¬ cexp z (-(N : Int)) < 0) : ∃ s : Nat, cexp z (-(N : Int)) = (s : Int) ∧ z % 2 ^ N = 0 ∧ z / 2 ^ N = sgn (cneg z) (cman z * 2 ^ s) ∧ z = (z / 2 ^ N) * 2 ^ N := by
  obtain ⟨k, e1, e2, e3⟩ := of_form (e := -(N : Int)) h0
  obtain ⟨s, rfl⟩ : ∃ s, k = s + N := ⟨k - N, by omega⟩
  have h1 : z = sgn (cneg z) (cman z * 2 ^ s) * 2 ^ N := by
    have h2 : sgn (cneg z) (cman z * 2 ^ (s + N)) = sgn (cneg z) (cman z * 2 ^ s) * 2 ^ N := by
      have hp : ((2 ^ N : Nat) : Int) = (2 : Int) ^ N := by simp
      cases cneg z
      · show ((cman z * 2 ^ (s + N) : Nat) : Int) = ((cman z * 2 ^ s : Nat) : Int) * 2 ^ N
        rw [Nat.pow_add, ← Nat.mul_assoc, Int.natCast_mul, hp]
      · show -((cman z * 2 ^ (s + N) : Nat) : Int) = -((cman z * 2 ^ s : Nat) : Int) * 2 ^ N
        rw [Nat.pow_add, ← Nat.mul_assoc, Int.natCast_mul, hp, Int.neg_mul]
    rw [← h2]; exact e2
  have hp0 : (2 : Int) ^ N ≠ 0 := Int.pow_ne_zero (by decide)
  have h3 : z % 2 ^ N = 0 := by rw [h1]; exact Int.mul_emod_left _ _
  have h4 : z / 2 ^ N = sgn (cneg z) (cman z * 2 ^ s) := by
    generalize sgn (cneg z) (cman z * 2 ^ s) = q at h1
    rw [h1]; exact Int.mul_ediv_cancel _ hp0
  refine ⟨s, by omega, h3, h4, ?_⟩
  rw [h4]; exact h1
theorem small_lo {M z lo hi : Int} (h : z < lo * M) : smallF M z lo hi = none := by
  unfold smallF; rw [if_neg]; rintro ⟨-, h1, -⟩; omega
theorem small_hi {M z lo hi : Int} (h : hi * M < z) : smallF M z lo hi = none := by
  unfold smallF; rw [if_neg]; rintro ⟨-, -, h1⟩; omega
theorem small_in {M z lo hi : Int} (h : z % M = 0) (h1 : ¬ z < lo * M) (h2 : ¬ hi * M < z) : smallF M z lo hi = some (z / M) := by
  unfold smallF; rw [if_pos ⟨h, by omega, by omega⟩]

theorem small_val {M z lo hi : Int} {x s : Nat} (h0 : z ≠ 0) (hM : 0 < M) (hx : x = cman z % 2 ^ 64) (hd : z / M = sgn (cneg z) (cman z * 2 ^ s)) (h1 : lo * M ≤ z) (h2 : z ≤ hi * M) (hlo : lo.natAbs < 2 ^ 20) (hhi : hi.natAbs < 2 ^ 20) :
    wrap64 (IntKind.u64.wrap ((x : Int) * 2 ^ min s 64)) = ((cman z * 2 ^ s : Nat) : Int) ∧ cman z * 2 ^ s < 2 ^ 20 := by
  have e1 : lo ≤ z / M := Int.le_ediv_of_mul_le hM h1
  have e2 : z / M ≤ hi := Int.ediv_le_of_le_mul hM h2
  have e3 : (z / M).natAbs = cman z * 2 ^ s := by rw [hd, sgn_abs]
  have e4 : cman z * 2 ^ s < 2 ^ 20 := by
    generalize z / M = q at *
    rw [← e3]; omega
  have e5 : 0 < cman z := Nat.pos_of_ne_zero (cman_ne h0)
  have e6 : 2 ^ s < 2 ^ 20 := Nat.lt_of_le_of_lt (Nat.le_mul_of_pos_left _ e5) e4
  have e7 : s < 20 := (Nat.pow_lt_pow_iff_right (by decide)).1 e6
  have e8 : cman z < 2 ^ 20 := Nat.lt_of_le_of_lt (Nat.le_mul_of_pos_right _ (Nat.two_pow_pos s)) e4
  have e9 : x = cman z := by rw [hx, Nat.mod_eq_of_lt (Nat.lt_trans e8 (by decide))]
  have e10 : ((x : Int) * 2 ^ min s 64) = ((cman z * 2 ^ s : Nat) : Int) := by
    rw [e9, Nat.min_eq_left (by omega), Int.natCast_mul]; simp
  refine ⟨?_, e4⟩
  rw [e10, u64_wrap]
  clear e1 e2 e3 e5 e6 e7 e8 e9 e10 hd hx
  generalize cman z * 2 ^ s = m at *
  unfold wrap64
  omega
theorem small_pos {M z lo hi : Int} {x s : Nat} (h0 : z ≠ 0) (hM : 0 < M) (hx : x = cman z % 2 ^ 64) (hd : z / M = sgn (cneg z) (cman z * 2 ^ s)) (h1 : lo * M ≤ z) (h2 : z ≤ hi * M) (hlo : lo.natAbs < 2 ^ 20) (hhi : hi.natAbs < 2 ^ 20) (hb : false = cneg z) :
    wrap64 (IntKind.u64.wrap ((x : Int) * 2 ^ min s 64)) = z / M := by
  rw [(small_val h0 hM hx hd h1 h2 hlo hhi).1, hd, ← hb]; rfl
theorem small_neg {M z lo hi : Int} {x s : Nat} (h0 : z ≠ 0) (hM : 0 < M) (hx : x = cman z % 2 ^ 64) (hd : z / M = sgn (cneg z) (cman z * 2 ^ s)) (h1 : lo * M ≤ z) (h2 : z ≤ hi * M) (hlo : lo.natAbs < 2 ^ 20) (hhi : hi.natAbs < 2 ^ 20) (hb : true = cneg z) :
    wrap64 (-wrap64 (IntKind.u64.wrap ((x : Int) * 2 ^ min s 64))) = z / M := by
  obtain ⟨h3, h4⟩ := small_val h0 hM hx hd h1 h2 hlo hhi
  rw [h3, hd, ← hb]
  show wrap64 (-((cman z * 2 ^ s : Nat) : Int)) = -((cman z * 2 ^ s : Nat) : Int)
  clear hd h3 hx
  generalize cman z * 2 ^ s = m at *
  unfold wrap64
  omega

set_option maxRecDepth 100000 in
set_option maxHeartbeats 8000000 in
theorem small_any {v : Value} {z : Int} {w : World} (lo hi : Int) (h : CDy w v z (-1074)) (o : Ok z (-1074)) (hlo : lo.natAbs < 2 ^ 20) (hhi : hi.natAbs < 2 ^ 20) (hT : TabAt 0 Lib.deBruijn64tab w) :
    Calls Tryd.prog 78 #[v, .int .i64 lo, .int .i64 hi] w fun en w' => en = .returned (.tuple #[.int .i64 ((smallF (2 ^ 1074) z lo hi).getD 0), .bool (smallF (2 ^ 1074) z lo hi).isSome]) ∧ Below w.heap.size w w' := by
  obtain ⟨b0, A, n0, c, x0, rfl⟩ := h.ex
  have HT := Aside0.mk hT
  have OO := Aside0.mk o
  have HCD := Aside0.mk h
  have OL := Aside0.mk (Ok.of (e := -1074) _ (sm_mul (k := 1074) hlo) (by decide) (by decide) (by decide))
  have OH := Aside0.mk (Ok.of (e := -1074) _ (sm_mul (k := 1074) hhi) (by decide) (by decide) (by decide))
  have L1 := Aside0.mk (And.intro (show -9223372036854775808 ≤ lo by omega) (show lo < 9223372036854775808 by omega))
  have H1 := Aside0.mk (And.intro (show -9223372036854775808 ≤ hi by omega) (show hi < 9223372036854775808 by omega))
  have HHI := Aside0.mk hhi
  have HLO := Aside0.mk hlo
  obtain ⟨M, hM⟩ : ∃ M : Int, M = 2 ^ 1074 := ⟨_, rfl⟩
  have HP := Aside0.mk (fun (n : Int) (v : Value) (b : Nat) (W : World) (h : PDy W b v n 0) => (by
    have q := PDy.scale (e := -1074) 1074 h
    rw [← hM] at q; exact q : PDy W b v (n * M) (-1074)))
  have HMP := Aside0.mk (show 0 < M by rw [hM]; exact Int.pow_pos (by decide))
  have HPART := Aside0.mk (fun (h0 : z ≠ 0) (h : cexp z (-1074) < 0) => (by
    have q := small_part (lo := lo) (hi := hi) (N := 1074) h0 h
    rw [← hM] at q; exact q : smallF M z lo hi = none))
  have HWH := Aside0.mk (fun (h0 : z ≠ 0) (h : ¬ cexp z (-1074) < 0) => (by
    have q := small_whole (N := 1074) h0 h
    rw [← hM] at q; exact q : ∃ s : Nat, cexp z (-1074) = (s : Int) ∧ z % M = 0 ∧ z / M = sgn (cneg z) (cman z * 2 ^ s) ∧ z = (z / M) * M))
  rw [← hM] at OL OH ⊢
  obtain ⟨lM, hL⟩ : ∃ q, q = lo * M := ⟨_, rfl⟩
  obtain ⟨hM2, hH⟩ : ∃ q, q = hi * M := ⟨_, rfl⟩
  have HL := Aside0.mk hL
  have HH := Aside0.mk hH
  rw [← hL] at OL
  rw [← hH] at OH
  obtain ⟨eb, ex, -⟩ := CDy.parts h
  have HXE := Aside0.mk ex
  have HBE := Aside0.mk eb
  clear h o hT hM hL hH hlo hhi eb ex
  go_enter Tryd.func78, Tryd.ntmps78
  have BEL : Aside0 (BelN w 1 (w.alloc (.cells #[.bool b0, .slice A n0 c, .int .i64 x0] 27))) := ⟨((BelN.zero w).alloc _).less (by decide)⟩
  have X0 : Aside0 ((w.alloc (.cells #[.bool b0, .slice A n0 c, .int .i64 x0] 27)).heap[w.heap.size]? = some (.cells #[.bool b0, .slice A n0 c, .int .i64 x0] 27 (0, 0))) := ⟨by have h := blk_new w (.cells #[.bool b0, .slice A n0 c, .int .i64 x0] 27); exact h⟩
  obtain ⟨q0, q0'⟩ := box_cell X0.out 0 rfl
  obtain ⟨q1, q1'⟩ := box_cell X0.out 1 rfl
  obtain ⟨q2, q2'⟩ := box_cell X0.out 2 rfl
  go_wp2_with fail
  clear q0 q0' q1 q1' q2 q2'
  go_at_call 22
  refine (zero_ok (HCD.out.below BEL.out.1) OO.out).mono ?_
  rintro en1 w1 ⟨rfl, hb⟩
  replace BEL := Aside0.mk (BEL.out.next hb)
  replace X0 := Aside0.mk (blk_below X0.out hb)
  clear hb
  by_cases hz : z = 0
  case pos =>
    have hd : decide (z = 0) = true := decide_eq_true hz
    have HZ := Aside0.mk hz
    have HSZ := Aside0.mk (small_z (M := M) (lo := lo) (hi := hi))
    clear hz
    by_cases hl : lo ≤ 0
    case neg =>
      have hdl : decide (lo ≤ 0) = false := decide_eq_false hl
      have HN : Aside0 (smallF M z lo hi = none) := ⟨by rw [HZ.out, HSZ.out, if_neg (fun h => hl (Int.le_of_mul_le_mul_right (by rw [Int.zero_mul]; exact h.1) HMP.out))]⟩
      clear hl
      obtain ⟨q3, q3'⟩ := box_cell X0.out 0 rfl
      obtain ⟨q4, q4'⟩ := box_cell X0.out 1 rfl
      obtain ⟨q5, q5'⟩ := box_cell X0.out 2 rfl
      go_wp2_with fail
      go_ret2
      exact ⟨by rw [HN.out]; rfl, BEL.out.1⟩
    by_cases hh : 0 ≤ hi
    case pos =>
      have hdl : decide (lo ≤ 0) = true := decide_eq_true hl
      have hdh : decide (0 ≤ hi) = true := decide_eq_true hh
      have HN : Aside0 (smallF M z lo hi = some 0) := ⟨by rw [HZ.out, HSZ.out, if_pos ⟨Int.mul_nonpos_of_nonpos_of_nonneg hl (Int.le_of_lt HMP.out), Int.mul_nonneg hh (Int.le_of_lt HMP.out)⟩]⟩
      clear hl hh
      obtain ⟨q3, q3'⟩ := box_cell X0.out 0 rfl
      obtain ⟨q4, q4'⟩ := box_cell X0.out 1 rfl
      obtain ⟨q5, q5'⟩ := box_cell X0.out 2 rfl
      go_wp2_with fail
      go_ret2
      exact ⟨by rw [HN.out]; rfl, BEL.out.1⟩
    case neg =>
      have hdl : decide (lo ≤ 0) = true := decide_eq_true hl
      have hdh : decide (0 ≤ hi) = false := decide_eq_false hh
      have HN : Aside0 (smallF M z lo hi = none) := ⟨by rw [HZ.out, HSZ.out, if_neg (fun h => hh (Int.le_of_mul_le_mul_right (by rw [Int.zero_mul]; exact h.2) HMP.out))]⟩
      clear hl hh
      obtain ⟨q3, q3'⟩ := box_cell X0.out 0 rfl
      obtain ⟨q4, q4'⟩ := box_cell X0.out 1 rfl
      obtain ⟨q5, q5'⟩ := box_cell X0.out 2 rfl
      go_wp2_with fail
      go_ret2
      exact ⟨by rw [HN.out]; rfl, BEL.out.1⟩
  case neg =>
    have hd : decide (z = 0) = false := decide_eq_false hz
    have HZ := Aside0.mk hz
    clear hz
    by_cases hx : x0 < 0
    case pos =>
      have hdx : decide (x0 < 0) = true := decide_eq_true hx
      have HN := Aside0.mk (HPART.out HZ.out (by rw [← HXE.out]; omega))
      clear hx
      obtain ⟨q3, q3'⟩ := box_cell X0.out 0 rfl
      obtain ⟨q4, q4'⟩ := box_cell X0.out 1 rfl
      obtain ⟨q5, q5'⟩ := box_cell X0.out 2 rfl
      go_wp2_with fail
      go_quiet (fail)
      clear q3 q3' q4 q4' q5 q5'
      replace BEL := Aside0.mk (BEL.out.next (quiet_below ⟨nq, rfl⟩))
      replace X0 := Aside0.mk (blk_below X0.out (quiet_below ⟨nq, rfl⟩))
      go_wp2_with fail
      go_ret2
      exact ⟨by rw [HN.out]; rfl, BEL.out.1⟩
    have hdx : decide (x0 < 0) = false := decide_eq_false hx
    have HWS := Aside0.mk (HWH.out HZ.out (by rw [← HXE.out]; omega))
    clear hx
    by_cases hlo : z < lM
    case pos =>
      have HC1 : Aside0 (decide (cmpZ z lM < 0) = true) := ⟨by rw [cmpZ_dlt]; exact decide_eq_true hlo⟩
      have HN := Aside0.mk (small_lo (hi := hi) (by rw [← HL.out]; exact hlo))
      clear hlo
      obtain ⟨q3, q3'⟩ := box_cell X0.out 0 rfl
      obtain ⟨q4, q4'⟩ := box_cell X0.out 1 rfl
      obtain ⟨q5, q5'⟩ := box_cell X0.out 2 rfl
      go_upto_region 3 with fail
      clear q3 q3' q4 q4' q5 q5'
      obtain ⟨GM, hGM⟩ : ∃ G : (Nat → Prop) → (Nat → Value) → World → Prop, G = fun L v W => BelN w 1 W ∧ W.heap[w.heap.size]? = some (.cells #[.bool b0, .slice A n0 c, .int .i64 x0] 27 (0, 0)) ∧ (L 0 → (v 0) = .pointer (some ⟨w.heap.size, 2, none⟩)) ∧ (L 1 → (v 1) = .int .i64 x0) ∧ (L 2 → (v 2) = .bool false) ∧ (L 3 → (v 3) = .bool false) ∧ (L 4 → (v 4) = .agg #[.bool b0, .slice A n0 c, .int .i64 x0]) ∧ (L 5 → (v 5) = .int .i64 lo) ∧ (L 6 → PDy W w.heap.size (v 6) lM (-1074)) ∧ (L 7 → (v 7) = .int .i64 (cmpZ z lM)) ∧ (L 8 → (v 8) = .bool true) ∧ (L 9 → (v 9) = .bool true) ∧ (L 10 → (v 10) = .bool true) ∧ True ∧ True ∧ True ∧ True ∧ True ∧ (L 16 → (v 16) = .bool true) := ⟨_, rfl⟩
      refine wp_region_slotsV [17, 18, 19, 20, 21, 22, 23, 24, 25, 26, 27, 28, 29, 30, 31, 32, 33] (by kernel_rfl) (by kernel_rfl) (G := GM) ?h0M ?hstepM ?hendM
      case h0M =>
        intro v; rw [hGM]
        exact ⟨BEL.out.next (below_drew (Below.refl _ _)), blk_drew X0.out, fun h => h.elim, fun h => h.elim, fun h => h.elim, fun h => h.elim, fun h => h.elim, fun h => h.elim, fun h => h.elim, fun h => h.elim, fun h => h.elim, fun h => h.elim, fun h => h.elim, trivial, trivial, trivial, trivial, trivial, fun h => h.elim⟩
      case hstepM =>
        intro k o ho v W L hGv hnk haft hcl K hK
        rw [hGM] at hGv
        obtain ⟨hB, hb0, f0, f1, f2, f3, f4, f5, f6, f7, f8, f9, f10, f11, f12, f13, f14, f15, f16⟩ := hGv
        rcases k with _ | _ | _ | _ | _ | _ | _ | _ | _ | _ | _ | _ | _ | _ | _ | _ | _ | k
        all_goals first
          | (cases ho; done)
          | (obtain rfl := (Option.some.inj ho).symm
             clear ho
             simp only [setAll, List.setIfInBounds_toArray, List.set_cons_zero, List.set_cons_succ, List.set_nil, List.getElem_toArray, List.getElem_cons_zero, List.getElem_cons_succ, Nat.reduceAdd] at haft hK ⊢)
        case zero =>
          rw [if_pos (by rfl)]
          have hb := Below.refl W.heap.size W
          have key := hK.out (.pointer (some ⟨w.heap.size, 2, none⟩)) W (by rw [hGM]; exact ⟨hB.next hb, blk_below hb0 hb, fun _ => by rw [upd_eq], (kv f1 (by decide)), (kv f2 (by decide)), (kv f3 (by decide)), (kv f4 (by decide)), (kv f5 (by decide)), (kd f6 (by decide) hb), (kv f7 (by decide)), (kv f8 (by decide)), (kv f9 (by decide)), (kv f10 (by decide)), trivial, trivial, trivial, trivial, trivial, (kv f16 (by decide))⟩)
          clear hb0 f0 f1 f2 f3 f4 f5 f6 f7 f8 f9 f10 f11 f12 f13 f14 f15 f16 hb hK
          go_simp
          simpa [upd] using key
        case succ.zero =>
          have d0 := f0 (haft { on := 0, ground := .data } (by simp) rfl)
          have D0 := d0
          rw [if_pos (by rfl)]
          have cc0 := (box_cell (v := .bool b0) hb0 0 rfl).1
          have cc1 := (box_cell (v := .slice A n0 c) hb0 1 rfl).1
          have cc2 := (box_cell (v := .int .i64 x0) hb0 2 rfl).1
          have hb := Below.refl W.heap.size W
          have key := hK.out (.int .i64 x0) W (by rw [hGM]; exact ⟨hB.next hb, blk_below hb0 hb, (kv f0 (by decide)), fun _ => by rw [upd_eq], (kv f2 (by decide)), (kv f3 (by decide)), (kv f4 (by decide)), (kv f5 (by decide)), (kd f6 (by decide) hb), (kv f7 (by decide)), (kv f8 (by decide)), (kv f9 (by decide)), (kv f10 (by decide)), trivial, trivial, trivial, trivial, trivial, (kv f16 (by decide))⟩)
          clear hb0 f0 f1 f2 f3 f4 f5 f6 f7 f8 f9 f10 f11 f12 f13 f14 f15 f16 hb hK
          go_simp
          simpa [upd, D0] using key
        case succ.succ.zero =>
          have d1 := f1 (haft { on := 1, ground := .data } (by simp) rfl)
          have D1 := d1
          rw [if_pos (by rfl)]
          have hb := Below.refl W.heap.size W
          have key := hK.out (.bool false) W (by rw [hGM]; exact ⟨hB.next hb, blk_below hb0 hb, (kv f0 (by decide)), (kv f1 (by decide)), fun _ => by rw [upd_eq], (kv f3 (by decide)), (kv f4 (by decide)), (kv f5 (by decide)), (kd f6 (by decide) hb), (kv f7 (by decide)), (kv f8 (by decide)), (kv f9 (by decide)), (kv f10 (by decide)), trivial, trivial, trivial, trivial, trivial, (kv f16 (by decide))⟩)
          clear hb0 f0 f1 f2 f3 f4 f5 f6 f7 f8 f9 f10 f11 f12 f13 f14 f15 f16 hb hK
          go_simp
          simpa [upd, D1] using key
        case succ.succ.succ.zero =>
          have d2 := f2 (haft { on := 2, ground := .data } (by simp) rfl)
          have D2 := d2
          rw [if_pos (by rfl)]
          have hb := Below.refl W.heap.size W
          have key := hK.out (.bool false) W (by rw [hGM]; exact ⟨hB.next hb, blk_below hb0 hb, (kv f0 (by decide)), (kv f1 (by decide)), (kv f2 (by decide)), fun _ => by rw [upd_eq], (kv f4 (by decide)), (kv f5 (by decide)), (kd f6 (by decide) hb), (kv f7 (by decide)), (kv f8 (by decide)), (kv f9 (by decide)), (kv f10 (by decide)), trivial, trivial, trivial, trivial, trivial, (kv f16 (by decide))⟩)
          clear hb0 f0 f1 f2 f3 f4 f5 f6 f7 f8 f9 f10 f11 f12 f13 f14 f15 f16 hb hK
          go_simp
          simpa [upd, D2] using key
        case succ.succ.succ.succ.zero =>
          have dg := f3 (haft { on := 3, ground := .guard } (by simp) rfl)
          rw [if_pos (by simp [Region.wanted, yielded, dg])]
          have cc0 := (box_cell (v := .bool b0) hb0 0 rfl).1
          have cc1 := (box_cell (v := .slice A n0 c) hb0 1 rfl).1
          have cc2 := (box_cell (v := .int .i64 x0) hb0 2 rfl).1
          have hb := Below.refl W.heap.size W
          have key := hK.out (.agg #[.bool b0, .slice A n0 c, .int .i64 x0]) W (by rw [hGM]; exact ⟨hB.next hb, blk_below hb0 hb, (kv f0 (by decide)), (kv f1 (by decide)), (kv f2 (by decide)), (kv f3 (by decide)), fun _ => by rw [upd_eq], (kv f5 (by decide)), (kd f6 (by decide) hb), (kv f7 (by decide)), (kv f8 (by decide)), (kv f9 (by decide)), (kv f10 (by decide)), trivial, trivial, trivial, trivial, trivial, (kv f16 (by decide))⟩)
          clear hb0 f0 f1 f2 f3 f4 f5 f6 f7 f8 f9 f10 f11 f12 f13 f14 f15 f16 hb hK
          go_simp
          simpa [upd, dg] using key
        case succ.succ.succ.succ.succ.zero =>
          have dg := f3 (haft { on := 3, ground := .guard } (by simp) rfl)
          rw [if_pos (by simp [Region.wanted, yielded, dg])]
          have hb := Below.refl W.heap.size W
          have key := hK.out (.int .i64 lo) W (by rw [hGM]; exact ⟨hB.next hb, blk_below hb0 hb, (kv f0 (by decide)), (kv f1 (by decide)), (kv f2 (by decide)), (kv f3 (by decide)), (kv f4 (by decide)), fun _ => by rw [upd_eq], (kd f6 (by decide) hb), (kv f7 (by decide)), (kv f8 (by decide)), (kv f9 (by decide)), (kv f10 (by decide)), trivial, trivial, trivial, trivial, trivial, (kv f16 (by decide))⟩)
          clear hb0 f0 f1 f2 f3 f4 f5 f6 f7 f8 f9 f10 f11 f12 f13 f14 f15 f16 hb hK
          go_simp
          simpa [upd, dg] using key
        case succ.succ.succ.succ.succ.succ.zero =>
          have d5 := f5 (haft { on := 5, ground := .data } (by simp) rfl)
          have D5 := d5
          have dg := f3 (haft { on := 3, ground := .guard } (by simp) rfl)
          rw [if_pos (by simp [Region.wanted, yielded, dg])]
          have HALL := Aside0.mk (And.intro hK (And.intro hB (And.intro hb0 ( And.intro f0 ( And.intro f1 ( And.intro f2 ( And.intro f3 ( And.intro f4 ( And.intro f5 ( And.intro f6 ( And.intro f7 ( And.intro f8 ( And.intro f9 ( And.intro f10 ( And.intro f11 ( And.intro f12 ( And.intro f13 ( And.intro f14 ( And.intro f15 ( And.intro f16 (True.intro)))))))))))))))))))))
          clear hK hb0 f0 f1 f2 f3 f4 f5 f6 f7 f8 f9 f10 f11 f12 f13 f14 f15 f16
          go_simp
          go_at_call 68
          refine (pint_dy lo _ L1.out.1 L1.out.2 (tab_below HT.out hB.1)).mono ?_
          rintro en w4 ⟨v1, rfl, hr, hb⟩
          obtain ⟨hK, hB, hb0, f0, f1, f2, f3, f4, f5, f6, f7, f8, f9, f10, f11, f12, f13, f14, f15, f16, _⟩ := HALL.out
          have key := hK.out (v1) w4 (by rw [hGM]; exact ⟨hB.next hb, blk_below hb0 hb, (kv f0 (by decide)), (kv f1 (by decide)), (kv f2 (by decide)), (kv f3 (by decide)), (kv f4 (by decide)), (kv f5 (by decide)), fun _ => by rw [upd_eq]; exact (by rw [HL.out]; exact (HP.out _ _ _ _ hr).lower (Nat.le_trans (Nat.le_add_right _ _) hB.2)), (kv f7 (by decide)), (kv f8 (by decide)), (kv f9 (by decide)), (kv f10 (by decide)), trivial, trivial, trivial, trivial, trivial, (kv f16 (by decide))⟩)
          clear hb0 f0 f1 f2 f3 f4 f5 f6 f7 f8 f9 f10 f11 f12 f13 f14 f15 f16 hK HALL
          simpa [upd, D5, dg] using key
        case succ.succ.succ.succ.succ.succ.succ.zero =>
          have d4 := f4 (haft { on := 4, ground := .data } (by simp) rfl)
          have D4 := d4
          have d6 := f6 (haft { on := 6, ground := .data } (by simp) rfl)
          have D6 := d6
          have dg := f3 (haft { on := 3, ground := .guard } (by simp) rfl)
          rw [if_pos (by simp [Region.wanted, yielded, dg])]
          have HALL := Aside0.mk (And.intro hK (And.intro hB (And.intro hb0 ( And.intro f0 ( And.intro f1 ( And.intro f2 ( And.intro f3 ( And.intro f4 ( And.intro f5 ( And.intro f6 ( And.intro f7 ( And.intro f8 ( And.intro f9 ( And.intro f10 ( And.intro f11 ( And.intro f12 ( And.intro f13 ( And.intro f14 ( And.intro f15 ( And.intro f16 (True.intro)))))))))))))))))))))
          clear hK hb0 f0 f1 f2 f3 f4 f5 f6 f7 f8 f9 f10 f11 f12 f13 f14 f15 f16
          go_simp
          go_at_call 48
          refine (cmp_ok (HCD.out.below hB.1) d6.c OO.out OL.out (tab_below HT.out hB.1)).mono ?_
          rintro en w4 ⟨rfl, hb⟩
          obtain ⟨hK, hB, hb0, f0, f1, f2, f3, f4, f5, f6, f7, f8, f9, f10, f11, f12, f13, f14, f15, f16, _⟩ := HALL.out
          have key := hK.out (.int .i64 (cmpZ z lM)) w4 (by rw [hGM]; exact ⟨hB.next hb, blk_below hb0 hb, (kv f0 (by decide)), (kv f1 (by decide)), (kv f2 (by decide)), (kv f3 (by decide)), (kv f4 (by decide)), (kv f5 (by decide)), (kd f6 (by decide) hb), fun _ => by rw [upd_eq], (kv f8 (by decide)), (kv f9 (by decide)), (kv f10 (by decide)), trivial, trivial, trivial, trivial, trivial, (kv f16 (by decide))⟩)
          clear hb0 f0 f1 f2 f3 f4 f5 f6 f7 f8 f9 f10 f11 f12 f13 f14 f15 f16 hK HALL
          simpa [upd, D4, dg] using key
        case succ.succ.succ.succ.succ.succ.succ.succ.zero =>
          have d7 := f7 (haft { on := 7, ground := .data } (by simp) rfl)
          have D7 := d7
          have dg := f3 (haft { on := 3, ground := .guard } (by simp) rfl)
          rw [if_pos (by simp [Region.wanted, yielded, dg])]
          have hc1 := HC1.out
          have hb := Below.refl W.heap.size W
          have key := hK.out (.bool true) W (by rw [hGM]; exact ⟨hB.next hb, blk_below hb0 hb, (kv f0 (by decide)), (kv f1 (by decide)), (kv f2 (by decide)), (kv f3 (by decide)), (kv f4 (by decide)), (kv f5 (by decide)), (kd f6 (by decide) hb), (kv f7 (by decide)), fun _ => by rw [upd_eq], (kv f9 (by decide)), (kv f10 (by decide)), trivial, trivial, trivial, trivial, trivial, (kv f16 (by decide))⟩)
          clear hb0 f0 f1 f2 f3 f4 f5 f6 f7 f8 f9 f10 f11 f12 f13 f14 f15 f16 hb hK
          go_simp
          simpa [upd, D7, dg] using key
        case succ.succ.succ.succ.succ.succ.succ.succ.succ.zero =>
          have d3 := f3 (haft { on := 3, ground := .data } (by simp) rfl)
          have D3 := d3
          have d8 := f8 (haft { on := 8, ground := .data } (by simp) rfl)
          have D8 := d8
          rw [if_pos (by rfl)]
          have hb := Below.refl W.heap.size W
          have key := hK.out (.bool true) W (by rw [hGM]; exact ⟨hB.next hb, blk_below hb0 hb, (kv f0 (by decide)), (kv f1 (by decide)), (kv f2 (by decide)), (kv f3 (by decide)), (kv f4 (by decide)), (kv f5 (by decide)), (kd f6 (by decide) hb), (kv f7 (by decide)), (kv f8 (by decide)), fun _ => by rw [upd_eq], (kv f10 (by decide)), trivial, trivial, trivial, trivial, trivial, (kv f16 (by decide))⟩)
          clear hb0 f0 f1 f2 f3 f4 f5 f6 f7 f8 f9 f10 f11 f12 f13 f14 f15 f16 hb hK
          go_simp
          simpa [upd, D3, D8] using key
        case succ.succ.succ.succ.succ.succ.succ.succ.succ.succ.zero =>
          have d9 := f9 (haft { on := 9, ground := .data } (by simp) rfl)
          have D9 := d9
          rw [if_pos (by rfl)]
          have hb := Below.refl W.heap.size W
          have key := hK.out (.bool true) W (by rw [hGM]; exact ⟨hB.next hb, blk_below hb0 hb, (kv f0 (by decide)), (kv f1 (by decide)), (kv f2 (by decide)), (kv f3 (by decide)), (kv f4 (by decide)), (kv f5 (by decide)), (kd f6 (by decide) hb), (kv f7 (by decide)), (kv f8 (by decide)), (kv f9 (by decide)), fun _ => by rw [upd_eq], trivial, trivial, trivial, trivial, trivial, (kv f16 (by decide))⟩)
          clear hb0 f0 f1 f2 f3 f4 f5 f6 f7 f8 f9 f10 f11 f12 f13 f14 f15 f16 hb hK
          go_simp
          simpa [upd, D9] using key
        case succ.succ.succ.succ.succ.succ.succ.succ.succ.succ.succ.zero =>
          have dg := f10 (haft { on := 10, ground := .guard } (by simp) rfl)
          rw [if_neg (by simp [Region.wanted, yielded, dg])]
          have hb := Below.refl W.heap.size W
          have key := hK.out undef W (by rw [hGM]; exact ⟨hB.next hb, blk_below hb0 hb, (kv f0 (by decide)), (kv f1 (by decide)), (kv f2 (by decide)), (kv f3 (by decide)), (kv f4 (by decide)), (kv f5 (by decide)), (kd f6 (by decide) hb), (kv f7 (by decide)), (kv f8 (by decide)), (kv f9 (by decide)), (kv f10 (by decide)), trivial, trivial, trivial, trivial, trivial, (kv f16 (by decide))⟩)
          clear hb0 f0 f1 f2 f3 f4 f5 f6 f7 f8 f9 f10 f11 f12 f13 f14 f15 f16 hK hb
          simpa [upd, Act.put, dg] using key
        case succ.succ.succ.succ.succ.succ.succ.succ.succ.succ.succ.succ.zero =>
          have dg := f10 (haft { on := 10, ground := .guard } (by simp) rfl)
          rw [if_neg (by simp [Region.wanted, yielded, dg])]
          have hb := Below.refl W.heap.size W
          have key := hK.out undef W (by rw [hGM]; exact ⟨hB.next hb, blk_below hb0 hb, (kv f0 (by decide)), (kv f1 (by decide)), (kv f2 (by decide)), (kv f3 (by decide)), (kv f4 (by decide)), (kv f5 (by decide)), (kd f6 (by decide) hb), (kv f7 (by decide)), (kv f8 (by decide)), (kv f9 (by decide)), (kv f10 (by decide)), trivial, trivial, trivial, trivial, trivial, (kv f16 (by decide))⟩)
          clear hb0 f0 f1 f2 f3 f4 f5 f6 f7 f8 f9 f10 f11 f12 f13 f14 f15 f16 hK hb
          simpa [upd, Act.put, dg] using key
        case succ.succ.succ.succ.succ.succ.succ.succ.succ.succ.succ.succ.succ.zero =>
          have dg := f10 (haft { on := 10, ground := .guard } (by simp) rfl)
          rw [if_neg (by simp [Region.wanted, yielded, dg])]
          have hb := Below.refl W.heap.size W
          have key := hK.out undef W (by rw [hGM]; exact ⟨hB.next hb, blk_below hb0 hb, (kv f0 (by decide)), (kv f1 (by decide)), (kv f2 (by decide)), (kv f3 (by decide)), (kv f4 (by decide)), (kv f5 (by decide)), (kd f6 (by decide) hb), (kv f7 (by decide)), (kv f8 (by decide)), (kv f9 (by decide)), (kv f10 (by decide)), trivial, trivial, trivial, trivial, trivial, (kv f16 (by decide))⟩)
          clear hb0 f0 f1 f2 f3 f4 f5 f6 f7 f8 f9 f10 f11 f12 f13 f14 f15 f16 hK hb
          simpa [upd, Act.put, dg] using key
        case succ.succ.succ.succ.succ.succ.succ.succ.succ.succ.succ.succ.succ.succ.zero =>
          have dg := f10 (haft { on := 10, ground := .guard } (by simp) rfl)
          rw [if_neg (by simp [Region.wanted, yielded, dg])]
          have hb := Below.refl W.heap.size W
          have key := hK.out undef W (by rw [hGM]; exact ⟨hB.next hb, blk_below hb0 hb, (kv f0 (by decide)), (kv f1 (by decide)), (kv f2 (by decide)), (kv f3 (by decide)), (kv f4 (by decide)), (kv f5 (by decide)), (kd f6 (by decide) hb), (kv f7 (by decide)), (kv f8 (by decide)), (kv f9 (by decide)), (kv f10 (by decide)), trivial, trivial, trivial, trivial, trivial, (kv f16 (by decide))⟩)
          clear hb0 f0 f1 f2 f3 f4 f5 f6 f7 f8 f9 f10 f11 f12 f13 f14 f15 f16 hK hb
          simpa [upd, Act.put, dg] using key
        case succ.succ.succ.succ.succ.succ.succ.succ.succ.succ.succ.succ.succ.succ.succ.zero =>
          have dg := f10 (haft { on := 10, ground := .guard } (by simp) rfl)
          rw [if_neg (by simp [Region.wanted, yielded, dg])]
          have hb := Below.refl W.heap.size W
          have key := hK.out undef W (by rw [hGM]; exact ⟨hB.next hb, blk_below hb0 hb, (kv f0 (by decide)), (kv f1 (by decide)), (kv f2 (by decide)), (kv f3 (by decide)), (kv f4 (by decide)), (kv f5 (by decide)), (kd f6 (by decide) hb), (kv f7 (by decide)), (kv f8 (by decide)), (kv f9 (by decide)), (kv f10 (by decide)), trivial, trivial, trivial, trivial, trivial, (kv f16 (by decide))⟩)
          clear hb0 f0 f1 f2 f3 f4 f5 f6 f7 f8 f9 f10 f11 f12 f13 f14 f15 f16 hK hb
          simpa [upd, Act.put, dg] using key
        case succ.succ.succ.succ.succ.succ.succ.succ.succ.succ.succ.succ.succ.succ.succ.succ.zero =>
          have d10 := f10 (haft { on := 10, ground := .data } (by simp) rfl)
          have D10 := d10
          rw [if_pos (by rfl)]
          have hb := Below.refl W.heap.size W
          have key := hK.out (.bool true) W (by rw [hGM]; exact ⟨hB.next hb, blk_below hb0 hb, (kv f0 (by decide)), (kv f1 (by decide)), (kv f2 (by decide)), (kv f3 (by decide)), (kv f4 (by decide)), (kv f5 (by decide)), (kd f6 (by decide) hb), (kv f7 (by decide)), (kv f8 (by decide)), (kv f9 (by decide)), (kv f10 (by decide)), trivial, trivial, trivial, trivial, trivial, fun _ => by rw [upd_eq]⟩)
          clear hb0 f0 f1 f2 f3 f4 f5 f6 f7 f8 f9 f10 f11 f12 f13 f14 f15 f16 hb hK
          go_simp
          simpa [upd, D10] using key
      case hendM =>
        intro v W L0 hall hGv
        rw [hGM] at hGv
        obtain ⟨hB, hb0, f0, f1, f2, f3, f4, f5, f6, f7, f8, f9, f10, f11, f12, f13, f14, f15, f16⟩ := hGv
        have d16 := f16 (hall 16 (by decide))
        replace BEL := Aside0.mk hB
        replace X0 := Aside0.mk hb0
        clear hall hB hb0 f0 f1 f2 f3 f4 f5 f6 f7 f8 f9 f10 f11 f12 f13 f14 f15 f16
        simp only [setAll, List.setIfInBounds_toArray, List.set_cons_zero, List.set_cons_succ, Nat.reduceAdd, d16]
        clear d16
        go_wp2_with fail
        go_ret2
        exact ⟨by rw [HN.out]; rfl, BEL.out.1⟩
    case neg =>
      have HC1 : Aside0 (decide (cmpZ z lM < 0) = false) := ⟨by rw [cmpZ_dlt]; exact decide_eq_false hlo⟩
      obtain ⟨c2, hc2⟩ : ∃ c2, decide (cmpZ z hM2 > 0) = c2 := ⟨_, rfl⟩
      have HC2 : Aside0 (decide (0 < cmpZ z hM2) = c2) := ⟨hc2⟩
      have HNL := Aside0.mk hlo
      clear hlo hc2
      obtain ⟨q3, q3'⟩ := box_cell X0.out 0 rfl
      obtain ⟨q4, q4'⟩ := box_cell X0.out 1 rfl
      obtain ⟨q5, q5'⟩ := box_cell X0.out 2 rfl
      go_upto_region 3 with fail
      clear q3 q3' q4 q4' q5 q5'
      obtain ⟨GN, hGN⟩ : ∃ G : (Nat → Prop) → (Nat → Value) → World → Prop, G = fun L v W => BelN w 1 W ∧ W.heap[w.heap.size]? = some (.cells #[.bool b0, .slice A n0 c, .int .i64 x0] 27 (0, 0)) ∧ (L 0 → (v 0) = .pointer (some ⟨w.heap.size, 2, none⟩)) ∧ (L 1 → (v 1) = .int .i64 x0) ∧ (L 2 → (v 2) = .bool false) ∧ (L 3 → (v 3) = .bool false) ∧ (L 4 → (v 4) = .agg #[.bool b0, .slice A n0 c, .int .i64 x0]) ∧ (L 5 → (v 5) = .int .i64 lo) ∧ (L 6 → PDy W w.heap.size (v 6) lM (-1074)) ∧ (L 7 → (v 7) = .int .i64 (cmpZ z lM)) ∧ (L 8 → (v 8) = .bool false) ∧ (L 9 → (v 9) = .bool false) ∧ (L 10 → (v 10) = .bool false) ∧ (L 11 → (v 11) = .agg #[.bool b0, .slice A n0 c, .int .i64 x0]) ∧ (L 12 → (v 12) = .int .i64 hi) ∧ (L 13 → PDy W w.heap.size (v 13) hM2 (-1074)) ∧ (L 14 → (v 14) = .int .i64 (cmpZ z hM2)) ∧ (L 15 → (v 15) = .bool c2) ∧ (L 16 → (v 16) = .bool c2) := ⟨_, rfl⟩
      refine wp_region_slotsV [17, 18, 19, 20, 21, 22, 23, 24, 25, 26, 27, 28, 29, 30, 31, 32, 33] (by kernel_rfl) (by kernel_rfl) (G := GN) ?h0N ?hstepN ?hendN
      case h0N =>
        intro v; rw [hGN]
        exact ⟨BEL.out.next (below_drew (Below.refl _ _)), blk_drew X0.out, fun h => h.elim, fun h => h.elim, fun h => h.elim, fun h => h.elim, fun h => h.elim, fun h => h.elim, fun h => h.elim, fun h => h.elim, fun h => h.elim, fun h => h.elim, fun h => h.elim, fun h => h.elim, fun h => h.elim, fun h => h.elim, fun h => h.elim, fun h => h.elim, fun h => h.elim⟩
      case hstepN =>
        intro k o ho v W L hGv hnk haft hcl K hK
        rw [hGN] at hGv
        obtain ⟨hB, hb0, f0, f1, f2, f3, f4, f5, f6, f7, f8, f9, f10, f11, f12, f13, f14, f15, f16⟩ := hGv
        rcases k with _ | _ | _ | _ | _ | _ | _ | _ | _ | _ | _ | _ | _ | _ | _ | _ | _ | k
        all_goals first
          | (cases ho; done)
          | (obtain rfl := (Option.some.inj ho).symm
             clear ho
             simp only [setAll, List.setIfInBounds_toArray, List.set_cons_zero, List.set_cons_succ, List.set_nil, List.getElem_toArray, List.getElem_cons_zero, List.getElem_cons_succ, Nat.reduceAdd] at haft hK ⊢)
        case zero =>
          rw [if_pos (by rfl)]
          have hb := Below.refl W.heap.size W
          have key := hK.out (.pointer (some ⟨w.heap.size, 2, none⟩)) W (by rw [hGN]; exact ⟨hB.next hb, blk_below hb0 hb, fun _ => by rw [upd_eq], (kv f1 (by decide)), (kv f2 (by decide)), (kv f3 (by decide)), (kv f4 (by decide)), (kv f5 (by decide)), (kd f6 (by decide) hb), (kv f7 (by decide)), (kv f8 (by decide)), (kv f9 (by decide)), (kv f10 (by decide)), (kv f11 (by decide)), (kv f12 (by decide)), (kd f13 (by decide) hb), (kv f14 (by decide)), (kv f15 (by decide)), (kv f16 (by decide))⟩)
          clear hb0 f0 f1 f2 f3 f4 f5 f6 f7 f8 f9 f10 f11 f12 f13 f14 f15 f16 hb hK
          go_simp
          simpa [upd] using key
        case succ.zero =>
          have d0 := f0 (haft { on := 0, ground := .data } (by simp) rfl)
          have D0 := d0
          rw [if_pos (by rfl)]
          have cc0 := (box_cell (v := .bool b0) hb0 0 rfl).1
          have cc1 := (box_cell (v := .slice A n0 c) hb0 1 rfl).1
          have cc2 := (box_cell (v := .int .i64 x0) hb0 2 rfl).1
          have hb := Below.refl W.heap.size W
          have key := hK.out (.int .i64 x0) W (by rw [hGN]; exact ⟨hB.next hb, blk_below hb0 hb, (kv f0 (by decide)), fun _ => by rw [upd_eq], (kv f2 (by decide)), (kv f3 (by decide)), (kv f4 (by decide)), (kv f5 (by decide)), (kd f6 (by decide) hb), (kv f7 (by decide)), (kv f8 (by decide)), (kv f9 (by decide)), (kv f10 (by decide)), (kv f11 (by decide)), (kv f12 (by decide)), (kd f13 (by decide) hb), (kv f14 (by decide)), (kv f15 (by decide)), (kv f16 (by decide))⟩)
          clear hb0 f0 f1 f2 f3 f4 f5 f6 f7 f8 f9 f10 f11 f12 f13 f14 f15 f16 hb hK
          go_simp
          simpa [upd, D0] using key
        case succ.succ.zero =>
          have d1 := f1 (haft { on := 1, ground := .data } (by simp) rfl)
          have D1 := d1
          rw [if_pos (by rfl)]
          have hb := Below.refl W.heap.size W
          have key := hK.out (.bool false) W (by rw [hGN]; exact ⟨hB.next hb, blk_below hb0 hb, (kv f0 (by decide)), (kv f1 (by decide)), fun _ => by rw [upd_eq], (kv f3 (by decide)), (kv f4 (by decide)), (kv f5 (by decide)), (kd f6 (by decide) hb), (kv f7 (by decide)), (kv f8 (by decide)), (kv f9 (by decide)), (kv f10 (by decide)), (kv f11 (by decide)), (kv f12 (by decide)), (kd f13 (by decide) hb), (kv f14 (by decide)), (kv f15 (by decide)), (kv f16 (by decide))⟩)
          clear hb0 f0 f1 f2 f3 f4 f5 f6 f7 f8 f9 f10 f11 f12 f13 f14 f15 f16 hb hK
          go_simp
          simpa [upd, D1] using key
        case succ.succ.succ.zero =>
          have d2 := f2 (haft { on := 2, ground := .data } (by simp) rfl)
          have D2 := d2
          rw [if_pos (by rfl)]
          have hb := Below.refl W.heap.size W
          have key := hK.out (.bool false) W (by rw [hGN]; exact ⟨hB.next hb, blk_below hb0 hb, (kv f0 (by decide)), (kv f1 (by decide)), (kv f2 (by decide)), fun _ => by rw [upd_eq], (kv f4 (by decide)), (kv f5 (by decide)), (kd f6 (by decide) hb), (kv f7 (by decide)), (kv f8 (by decide)), (kv f9 (by decide)), (kv f10 (by decide)), (kv f11 (by decide)), (kv f12 (by decide)), (kd f13 (by decide) hb), (kv f14 (by decide)), (kv f15 (by decide)), (kv f16 (by decide))⟩)
          clear hb0 f0 f1 f2 f3 f4 f5 f6 f7 f8 f9 f10 f11 f12 f13 f14 f15 f16 hb hK
          go_simp
          simpa [upd, D2] using key
        case succ.succ.succ.succ.zero =>
          have dg := f3 (haft { on := 3, ground := .guard } (by simp) rfl)
          rw [if_pos (by simp [Region.wanted, yielded, dg])]
          have cc0 := (box_cell (v := .bool b0) hb0 0 rfl).1
          have cc1 := (box_cell (v := .slice A n0 c) hb0 1 rfl).1
          have cc2 := (box_cell (v := .int .i64 x0) hb0 2 rfl).1
          have hb := Below.refl W.heap.size W
          have key := hK.out (.agg #[.bool b0, .slice A n0 c, .int .i64 x0]) W (by rw [hGN]; exact ⟨hB.next hb, blk_below hb0 hb, (kv f0 (by decide)), (kv f1 (by decide)), (kv f2 (by decide)), (kv f3 (by decide)), fun _ => by rw [upd_eq], (kv f5 (by decide)), (kd f6 (by decide) hb), (kv f7 (by decide)), (kv f8 (by decide)), (kv f9 (by decide)), (kv f10 (by decide)), (kv f11 (by decide)), (kv f12 (by decide)), (kd f13 (by decide) hb), (kv f14 (by decide)), (kv f15 (by decide)), (kv f16 (by decide))⟩)
          clear hb0 f0 f1 f2 f3 f4 f5 f6 f7 f8 f9 f10 f11 f12 f13 f14 f15 f16 hb hK
          go_simp
          simpa [upd, dg] using key
        case succ.succ.succ.succ.succ.zero =>
          have dg := f3 (haft { on := 3, ground := .guard } (by simp) rfl)
          rw [if_pos (by simp [Region.wanted, yielded, dg])]
          have hb := Below.refl W.heap.size W
          have key := hK.out (.int .i64 lo) W (by rw [hGN]; exact ⟨hB.next hb, blk_below hb0 hb, (kv f0 (by decide)), (kv f1 (by decide)), (kv f2 (by decide)), (kv f3 (by decide)), (kv f4 (by decide)), fun _ => by rw [upd_eq], (kd f6 (by decide) hb), (kv f7 (by decide)), (kv f8 (by decide)), (kv f9 (by decide)), (kv f10 (by decide)), (kv f11 (by decide)), (kv f12 (by decide)), (kd f13 (by decide) hb), (kv f14 (by decide)), (kv f15 (by decide)), (kv f16 (by decide))⟩)
          clear hb0 f0 f1 f2 f3 f4 f5 f6 f7 f8 f9 f10 f11 f12 f13 f14 f15 f16 hb hK
          go_simp
          simpa [upd, dg] using key
        case succ.succ.succ.succ.succ.succ.zero =>
          have d5 := f5 (haft { on := 5, ground := .data } (by simp) rfl)
          have D5 := d5
          have dg := f3 (haft { on := 3, ground := .guard } (by simp) rfl)
          rw [if_pos (by simp [Region.wanted, yielded, dg])]
          have HALL := Aside0.mk (And.intro hK (And.intro hB (And.intro hb0 ( And.intro f0 ( And.intro f1 ( And.intro f2 ( And.intro f3 ( And.intro f4 ( And.intro f5 ( And.intro f6 ( And.intro f7 ( And.intro f8 ( And.intro f9 ( And.intro f10 ( And.intro f11 ( And.intro f12 ( And.intro f13 ( And.intro f14 ( And.intro f15 ( And.intro f16 (True.intro)))))))))))))))))))))
          clear hK hb0 f0 f1 f2 f3 f4 f5 f6 f7 f8 f9 f10 f11 f12 f13 f14 f15 f16
          go_simp
          go_at_call 68
          refine (pint_dy lo _ L1.out.1 L1.out.2 (tab_below HT.out hB.1)).mono ?_
          rintro en w4 ⟨v1, rfl, hr, hb⟩
          obtain ⟨hK, hB, hb0, f0, f1, f2, f3, f4, f5, f6, f7, f8, f9, f10, f11, f12, f13, f14, f15, f16, _⟩ := HALL.out
          have key := hK.out (v1) w4 (by rw [hGN]; exact ⟨hB.next hb, blk_below hb0 hb, (kv f0 (by decide)), (kv f1 (by decide)), (kv f2 (by decide)), (kv f3 (by decide)), (kv f4 (by decide)), (kv f5 (by decide)), fun _ => by rw [upd_eq]; exact (by rw [HL.out]; exact (HP.out _ _ _ _ hr).lower (Nat.le_trans (Nat.le_add_right _ _) hB.2)), (kv f7 (by decide)), (kv f8 (by decide)), (kv f9 (by decide)), (kv f10 (by decide)), (kv f11 (by decide)), (kv f12 (by decide)), (kd f13 (by decide) hb), (kv f14 (by decide)), (kv f15 (by decide)), (kv f16 (by decide))⟩)
          clear hb0 f0 f1 f2 f3 f4 f5 f6 f7 f8 f9 f10 f11 f12 f13 f14 f15 f16 hK HALL
          simpa [upd, D5, dg] using key
        case succ.succ.succ.succ.succ.succ.succ.zero =>
          have d4 := f4 (haft { on := 4, ground := .data } (by simp) rfl)
          have D4 := d4
          have d6 := f6 (haft { on := 6, ground := .data } (by simp) rfl)
          have D6 := d6
          have dg := f3 (haft { on := 3, ground := .guard } (by simp) rfl)
          rw [if_pos (by simp [Region.wanted, yielded, dg])]
          have HALL := Aside0.mk (And.intro hK (And.intro hB (And.intro hb0 ( And.intro f0 ( And.intro f1 ( And.intro f2 ( And.intro f3 ( And.intro f4 ( And.intro f5 ( And.intro f6 ( And.intro f7 ( And.intro f8 ( And.intro f9 ( And.intro f10 ( And.intro f11 ( And.intro f12 ( And.intro f13 ( And.intro f14 ( And.intro f15 ( And.intro f16 (True.intro)))))))))))))))))))))
          clear hK hb0 f0 f1 f2 f3 f4 f5 f6 f7 f8 f9 f10 f11 f12 f13 f14 f15 f16
          go_simp
          go_at_call 48
          refine (cmp_ok (HCD.out.below hB.1) d6.c OO.out OL.out (tab_below HT.out hB.1)).mono ?_
          rintro en w4 ⟨rfl, hb⟩
          obtain ⟨hK, hB, hb0, f0, f1, f2, f3, f4, f5, f6, f7, f8, f9, f10, f11, f12, f13, f14, f15, f16, _⟩ := HALL.out
          have key := hK.out (.int .i64 (cmpZ z lM)) w4 (by rw [hGN]; exact ⟨hB.next hb, blk_below hb0 hb, (kv f0 (by decide)), (kv f1 (by decide)), (kv f2 (by decide)), (kv f3 (by decide)), (kv f4 (by decide)), (kv f5 (by decide)), (kd f6 (by decide) hb), fun _ => by rw [upd_eq], (kv f8 (by decide)), (kv f9 (by decide)), (kv f10 (by decide)), (kv f11 (by decide)), (kv f12 (by decide)), (kd f13 (by decide) hb), (kv f14 (by decide)), (kv f15 (by decide)), (kv f16 (by decide))⟩)
          clear hb0 f0 f1 f2 f3 f4 f5 f6 f7 f8 f9 f10 f11 f12 f13 f14 f15 f16 hK HALL
          simpa [upd, D4, dg] using key
        case succ.succ.succ.succ.succ.succ.succ.succ.zero =>
          have d7 := f7 (haft { on := 7, ground := .data } (by simp) rfl)
          have D7 := d7
          have dg := f3 (haft { on := 3, ground := .guard } (by simp) rfl)
          rw [if_pos (by simp [Region.wanted, yielded, dg])]
          have hc1 := HC1.out
          have hb := Below.refl W.heap.size W
          have key := hK.out (.bool false) W (by rw [hGN]; exact ⟨hB.next hb, blk_below hb0 hb, (kv f0 (by decide)), (kv f1 (by decide)), (kv f2 (by decide)), (kv f3 (by decide)), (kv f4 (by decide)), (kv f5 (by decide)), (kd f6 (by decide) hb), (kv f7 (by decide)), fun _ => by rw [upd_eq], (kv f9 (by decide)), (kv f10 (by decide)), (kv f11 (by decide)), (kv f12 (by decide)), (kd f13 (by decide) hb), (kv f14 (by decide)), (kv f15 (by decide)), (kv f16 (by decide))⟩)
          clear hb0 f0 f1 f2 f3 f4 f5 f6 f7 f8 f9 f10 f11 f12 f13 f14 f15 f16 hb hK
          go_simp
          simpa [upd, D7, dg] using key
        case succ.succ.succ.succ.succ.succ.succ.succ.succ.zero =>
          have d3 := f3 (haft { on := 3, ground := .data } (by simp) rfl)
          have D3 := d3
          have d8 := f8 (haft { on := 8, ground := .data } (by simp) rfl)
          have D8 := d8
          rw [if_pos (by rfl)]
          have hb := Below.refl W.heap.size W
          have key := hK.out (.bool false) W (by rw [hGN]; exact ⟨hB.next hb, blk_below hb0 hb, (kv f0 (by decide)), (kv f1 (by decide)), (kv f2 (by decide)), (kv f3 (by decide)), (kv f4 (by decide)), (kv f5 (by decide)), (kd f6 (by decide) hb), (kv f7 (by decide)), (kv f8 (by decide)), fun _ => by rw [upd_eq], (kv f10 (by decide)), (kv f11 (by decide)), (kv f12 (by decide)), (kd f13 (by decide) hb), (kv f14 (by decide)), (kv f15 (by decide)), (kv f16 (by decide))⟩)
          clear hb0 f0 f1 f2 f3 f4 f5 f6 f7 f8 f9 f10 f11 f12 f13 f14 f15 f16 hb hK
          go_simp
          simpa [upd, D3, D8] using key
        case succ.succ.succ.succ.succ.succ.succ.succ.succ.succ.zero =>
          have d9 := f9 (haft { on := 9, ground := .data } (by simp) rfl)
          have D9 := d9
          rw [if_pos (by rfl)]
          have hb := Below.refl W.heap.size W
          have key := hK.out (.bool false) W (by rw [hGN]; exact ⟨hB.next hb, blk_below hb0 hb, (kv f0 (by decide)), (kv f1 (by decide)), (kv f2 (by decide)), (kv f3 (by decide)), (kv f4 (by decide)), (kv f5 (by decide)), (kd f6 (by decide) hb), (kv f7 (by decide)), (kv f8 (by decide)), (kv f9 (by decide)), fun _ => by rw [upd_eq], (kv f11 (by decide)), (kv f12 (by decide)), (kd f13 (by decide) hb), (kv f14 (by decide)), (kv f15 (by decide)), (kv f16 (by decide))⟩)
          clear hb0 f0 f1 f2 f3 f4 f5 f6 f7 f8 f9 f10 f11 f12 f13 f14 f15 f16 hb hK
          go_simp
          simpa [upd, D9] using key
        case succ.succ.succ.succ.succ.succ.succ.succ.succ.succ.succ.zero =>
          have dg := f10 (haft { on := 10, ground := .guard } (by simp) rfl)
          rw [if_pos (by simp [Region.wanted, yielded, dg])]
          have cc0 := (box_cell (v := .bool b0) hb0 0 rfl).1
          have cc1 := (box_cell (v := .slice A n0 c) hb0 1 rfl).1
          have cc2 := (box_cell (v := .int .i64 x0) hb0 2 rfl).1
          have hb := Below.refl W.heap.size W
          have key := hK.out (.agg #[.bool b0, .slice A n0 c, .int .i64 x0]) W (by rw [hGN]; exact ⟨hB.next hb, blk_below hb0 hb, (kv f0 (by decide)), (kv f1 (by decide)), (kv f2 (by decide)), (kv f3 (by decide)), (kv f4 (by decide)), (kv f5 (by decide)), (kd f6 (by decide) hb), (kv f7 (by decide)), (kv f8 (by decide)), (kv f9 (by decide)), (kv f10 (by decide)), fun _ => by rw [upd_eq], (kv f12 (by decide)), (kd f13 (by decide) hb), (kv f14 (by decide)), (kv f15 (by decide)), (kv f16 (by decide))⟩)
          clear hb0 f0 f1 f2 f3 f4 f5 f6 f7 f8 f9 f10 f11 f12 f13 f14 f15 f16 hb hK
          go_simp
          simpa [upd, dg] using key
        case succ.succ.succ.succ.succ.succ.succ.succ.succ.succ.succ.succ.zero =>
          have dg := f10 (haft { on := 10, ground := .guard } (by simp) rfl)
          rw [if_pos (by simp [Region.wanted, yielded, dg])]
          have hb := Below.refl W.heap.size W
          have key := hK.out (.int .i64 hi) W (by rw [hGN]; exact ⟨hB.next hb, blk_below hb0 hb, (kv f0 (by decide)), (kv f1 (by decide)), (kv f2 (by decide)), (kv f3 (by decide)), (kv f4 (by decide)), (kv f5 (by decide)), (kd f6 (by decide) hb), (kv f7 (by decide)), (kv f8 (by decide)), (kv f9 (by decide)), (kv f10 (by decide)), (kv f11 (by decide)), fun _ => by rw [upd_eq], (kd f13 (by decide) hb), (kv f14 (by decide)), (kv f15 (by decide)), (kv f16 (by decide))⟩)
          clear hb0 f0 f1 f2 f3 f4 f5 f6 f7 f8 f9 f10 f11 f12 f13 f14 f15 f16 hb hK
          go_simp
          simpa [upd, dg] using key
        case succ.succ.succ.succ.succ.succ.succ.succ.succ.succ.succ.succ.succ.zero =>
          have d12 := f12 (haft { on := 12, ground := .data } (by simp) rfl)
          have D12 := d12
          have dg := f10 (haft { on := 10, ground := .guard } (by simp) rfl)
          rw [if_pos (by simp [Region.wanted, yielded, dg])]
          have HALL := Aside0.mk (And.intro hK (And.intro hB (And.intro hb0 ( And.intro f0 ( And.intro f1 ( And.intro f2 ( And.intro f3 ( And.intro f4 ( And.intro f5 ( And.intro f6 ( And.intro f7 ( And.intro f8 ( And.intro f9 ( And.intro f10 ( And.intro f11 ( And.intro f12 ( And.intro f13 ( And.intro f14 ( And.intro f15 ( And.intro f16 (True.intro)))))))))))))))))))))
          clear hK hb0 f0 f1 f2 f3 f4 f5 f6 f7 f8 f9 f10 f11 f12 f13 f14 f15 f16
          go_simp
          go_at_call 68
          refine (pint_dy hi _ H1.out.1 H1.out.2 (tab_below HT.out hB.1)).mono ?_
          rintro en w4 ⟨v1, rfl, hr, hb⟩
          obtain ⟨hK, hB, hb0, f0, f1, f2, f3, f4, f5, f6, f7, f8, f9, f10, f11, f12, f13, f14, f15, f16, _⟩ := HALL.out
          have key := hK.out (v1) w4 (by rw [hGN]; exact ⟨hB.next hb, blk_below hb0 hb, (kv f0 (by decide)), (kv f1 (by decide)), (kv f2 (by decide)), (kv f3 (by decide)), (kv f4 (by decide)), (kv f5 (by decide)), (kd f6 (by decide) hb), (kv f7 (by decide)), (kv f8 (by decide)), (kv f9 (by decide)), (kv f10 (by decide)), (kv f11 (by decide)), (kv f12 (by decide)), fun _ => by rw [upd_eq]; exact (by rw [HH.out]; exact (HP.out _ _ _ _ hr).lower (Nat.le_trans (Nat.le_add_right _ _) hB.2)), (kv f14 (by decide)), (kv f15 (by decide)), (kv f16 (by decide))⟩)
          clear hb0 f0 f1 f2 f3 f4 f5 f6 f7 f8 f9 f10 f11 f12 f13 f14 f15 f16 hK HALL
          simpa [upd, D12, dg] using key
        case succ.succ.succ.succ.succ.succ.succ.succ.succ.succ.succ.succ.succ.succ.zero =>
          have d11 := f11 (haft { on := 11, ground := .data } (by simp) rfl)
          have D11 := d11
          have d13 := f13 (haft { on := 13, ground := .data } (by simp) rfl)
          have D13 := d13
          have dg := f10 (haft { on := 10, ground := .guard } (by simp) rfl)
          rw [if_pos (by simp [Region.wanted, yielded, dg])]
          have HALL := Aside0.mk (And.intro hK (And.intro hB (And.intro hb0 ( And.intro f0 ( And.intro f1 ( And.intro f2 ( And.intro f3 ( And.intro f4 ( And.intro f5 ( And.intro f6 ( And.intro f7 ( And.intro f8 ( And.intro f9 ( And.intro f10 ( And.intro f11 ( And.intro f12 ( And.intro f13 ( And.intro f14 ( And.intro f15 ( And.intro f16 (True.intro)))))))))))))))))))))
          clear hK hb0 f0 f1 f2 f3 f4 f5 f6 f7 f8 f9 f10 f11 f12 f13 f14 f15 f16
          go_simp
          go_at_call 48
          refine (cmp_ok (HCD.out.below hB.1) d13.c OO.out OH.out (tab_below HT.out hB.1)).mono ?_
          rintro en w4 ⟨rfl, hb⟩
          obtain ⟨hK, hB, hb0, f0, f1, f2, f3, f4, f5, f6, f7, f8, f9, f10, f11, f12, f13, f14, f15, f16, _⟩ := HALL.out
          have key := hK.out (.int .i64 (cmpZ z hM2)) w4 (by rw [hGN]; exact ⟨hB.next hb, blk_below hb0 hb, (kv f0 (by decide)), (kv f1 (by decide)), (kv f2 (by decide)), (kv f3 (by decide)), (kv f4 (by decide)), (kv f5 (by decide)), (kd f6 (by decide) hb), (kv f7 (by decide)), (kv f8 (by decide)), (kv f9 (by decide)), (kv f10 (by decide)), (kv f11 (by decide)), (kv f12 (by decide)), (kd f13 (by decide) hb), fun _ => by rw [upd_eq], (kv f15 (by decide)), (kv f16 (by decide))⟩)
          clear hb0 f0 f1 f2 f3 f4 f5 f6 f7 f8 f9 f10 f11 f12 f13 f14 f15 f16 hK HALL
          simpa [upd, D11, dg] using key
        case succ.succ.succ.succ.succ.succ.succ.succ.succ.succ.succ.succ.succ.succ.succ.zero =>
          have d14 := f14 (haft { on := 14, ground := .data } (by simp) rfl)
          have D14 := d14
          have dg := f10 (haft { on := 10, ground := .guard } (by simp) rfl)
          rw [if_pos (by simp [Region.wanted, yielded, dg])]
          have hc2 := HC2.out
          have hb := Below.refl W.heap.size W
          have key := hK.out (.bool c2) W (by rw [hGN]; exact ⟨hB.next hb, blk_below hb0 hb, (kv f0 (by decide)), (kv f1 (by decide)), (kv f2 (by decide)), (kv f3 (by decide)), (kv f4 (by decide)), (kv f5 (by decide)), (kd f6 (by decide) hb), (kv f7 (by decide)), (kv f8 (by decide)), (kv f9 (by decide)), (kv f10 (by decide)), (kv f11 (by decide)), (kv f12 (by decide)), (kd f13 (by decide) hb), (kv f14 (by decide)), fun _ => by rw [upd_eq], (kv f16 (by decide))⟩)
          clear hb0 f0 f1 f2 f3 f4 f5 f6 f7 f8 f9 f10 f11 f12 f13 f14 f15 f16 hb hK
          go_simp
          simpa [upd, D14, dg] using key
        case succ.succ.succ.succ.succ.succ.succ.succ.succ.succ.succ.succ.succ.succ.succ.succ.zero =>
          have d10 := f10 (haft { on := 10, ground := .data } (by simp) rfl)
          have D10 := d10
          have d15 := f15 (haft { on := 15, ground := .data } (by simp) rfl)
          have D15 := d15
          rw [if_pos (by rfl)]
          have hb := Below.refl W.heap.size W
          have key := hK.out (.bool c2) W (by rw [hGN]; exact ⟨hB.next hb, blk_below hb0 hb, (kv f0 (by decide)), (kv f1 (by decide)), (kv f2 (by decide)), (kv f3 (by decide)), (kv f4 (by decide)), (kv f5 (by decide)), (kd f6 (by decide) hb), (kv f7 (by decide)), (kv f8 (by decide)), (kv f9 (by decide)), (kv f10 (by decide)), (kv f11 (by decide)), (kv f12 (by decide)), (kd f13 (by decide) hb), (kv f14 (by decide)), (kv f15 (by decide)), fun _ => by rw [upd_eq]⟩)
          clear hb0 f0 f1 f2 f3 f4 f5 f6 f7 f8 f9 f10 f11 f12 f13 f14 f15 f16 hb hK
          go_simp
          simpa [upd, D10, D15] using key
      case hendN =>
        intro v W L0 hall hGv
        rw [hGN] at hGv
        obtain ⟨hB, hb0, f0, f1, f2, f3, f4, f5, f6, f7, f8, f9, f10, f11, f12, f13, f14, f15, f16⟩ := hGv
        have d16 := f16 (hall 16 (by decide))
        replace BEL := Aside0.mk hB
        replace X0 := Aside0.mk hb0
        clear hall hB hb0 f0 f1 f2 f3 f4 f5 f6 f7 f8 f9 f10 f11 f12 f13 f14 f15 f16
        simp only [setAll, List.setIfInBounds_toArray, List.set_cons_zero, List.set_cons_succ, Nat.reduceAdd, d16]
        clear d16
        cases c2
        case true =>
          have HN := Aside0.mk (small_hi (lo := lo) (of_decide_eq_true ((cmpZ_dgt z hM2).symm.trans HC2.out |> (HH.out ▸ ·))))
          go_wp2_with fail
          go_ret2
          exact ⟨by rw [HN.out]; rfl, BEL.out.1⟩
        case false =>
          obtain ⟨s, es, em, ed, ez⟩ := HWS.out
          rw [← HXE.out] at es
          subst es
          have HNH := Aside0.mk (of_decide_eq_false ((cmpZ_dgt z hM2).symm.trans HC2.out))
          have HN := Aside0.mk (small_in em (by rw [← HL.out]; have := HNL.out; omega) (by rw [← HH.out]; have := HNH.out; omega))
          have HED := Aside0.mk ed
          have HC2 := HC2
          obtain ⟨-, -, hC1, hC2, -⟩ := CDy.parts (HCD.out.below BEL.out.1)
          have hp1 : 0 < n0 := by rw [← hC2]; exact limbs_len_pos (cman_ne HZ.out)
          obtain ⟨ad, x, hA, hx0, hcell⟩ := at_word hC1 hC2 0 hp1
          subst hA
          have hz0 : ad.add 0 = ad := by simp [Addr.add]
          rw [hz0] at hcell
          have HXW := Aside0.mk (limbs_zeroth (cman_ne HZ.out) hx0)
          clear em ed ez hC1 hC2 hx0 hz0
          obtain ⟨q0, q0'⟩ := box_cell X0.out 0 rfl
          obtain ⟨q1, q1'⟩ := box_cell X0.out 1 rfl
          obtain ⟨q2, q2'⟩ := box_cell X0.out 2 rfl
          go_wp2_with fail
          go_quiet (fail)
          clear q0 q0' q1 q1' q2 q2'
          replace BEL := Aside0.mk (BEL.out.next (quiet_below ⟨nq, rfl⟩))
          replace X0 := Aside0.mk (blk_below X0.out (quiet_below ⟨nq, rfl⟩))
          cases b0
          case false =>
            obtain ⟨q3, q3'⟩ := box_cell X0.out 0 rfl
            obtain ⟨q4, q4'⟩ := box_cell X0.out 1 rfl
            obtain ⟨q5, q5'⟩ := box_cell X0.out 2 rfl
            go_wp2_with fail
            go_ret2
            refine ⟨?_, BEL.out.1⟩
            rw [HN.out]
            exact congrArg (fun q => Ending.returned (.tuple #[.int .i64 q, .bool true])) (small_pos HZ.out HMP.out HXW.out HED.out (by rw [← HL.out]; have := HNL.out; omega) (by rw [← HH.out]; have := HNH.out; omega) HLO.out HHI.out HBE.out)
          case true =>
            obtain ⟨q3, q3'⟩ := box_cell X0.out 0 rfl
            obtain ⟨q4, q4'⟩ := box_cell X0.out 1 rfl
            obtain ⟨q5, q5'⟩ := box_cell X0.out 2 rfl
            go_wp2_with fail
            go_ret2
            refine ⟨?_, BEL.out.1⟩
            rw [HN.out]
            exact congrArg (fun q => Ending.returned (.tuple #[.int .i64 q, .bool true])) (small_neg HZ.out HMP.out HXW.out HED.out (by rw [← HL.out]; have := HNL.out; omega) (by rw [← HH.out]; have := HNH.out; omega) HLO.out HHI.out HBE.out)
end Go.Proofs.YtgpjplelgffocaaDoor

namespace Go.Proofs.YtgpjplelgffocaaDoor
open Go.RowKit Go.Proofs.YtgpjplelgffocaaDoorW.PrintWords Limb
set_option linter.unusedVariables false
set_option linter.unusedSimpArgs false

set_option maxRecDepth 100000 in
set_option maxHeartbeats 8000000 in
theorem at1_any {u : Value} {z n z0 e0 : Int} {b g1 g2 : Nat} {tb ts : Bool} {tA : Option Addr} {tn tc : Nat} {tx : Int} {w : World} (h : CDy w u z (-1074)) (o : Ok z (-1074)) (hn : n.natAbs < 2 ^ 62)
    (h1 : w.heap[g1]? = some (.cells #[.int .i64 n] 2 (0, 0))) (h2 : w.heap[g2]? = some (.cells #[.bool tb, .slice tA tn tc, .int .i64 tx, .bool ts] 51 (0, 0))) (hP : PT w b (.agg #[.bool tb, .slice tA tn tc, .int .i64 tx, .bool ts]) z0 e0 true) (hT : TabAt 0 Lib.deBruijn64tab w) :
    Calls Tryd.prog 75 #[u, .pointer (some ⟨g1, 0, none⟩), .pointer (some ⟨g2, 0, none⟩)] w fun en w' => ∃ v', en = .returned v' ∧ PO w' b v' (if z = n * 2 ^ 1074 then some (z0, e0) else none) ∧ Below w.heap.size w w' := by
  obtain ⟨b0, A, n0, c, x0, rfl⟩ := h.ex
  obtain ⟨-, ts1⟩ := hP.d
  subst ts1
  have HGS := Aside0.mk (And.intro (lt_blk h1) (lt_blk h2))
  have HG1 := Aside0.mk h1
  have HG2 := Aside0.mk h2
  have QI := Aside0.mk (fun (W : World) (hb : Below w.heap.size w W) => is_any n (h.below hb) o hn (tab_below hT hb))
  have P0 := Aside0.mk (hP.below (below_alloc (below_alloc (Below.refl _ _) (.cells #[.bool b0, .slice A n0 c, .int .i64 x0] 27)) (.cells #[.bool false, .slice none 0 0, .int .i64 0, .bool false] 51)))
  clear h o hn h1 h2 hP hT
  generalize n * 2 ^ 1074 = M at *
  obtain ⟨G, hG⟩ : ∃ G, G = if z = M then some (z0, e0) else none := ⟨_, rfl⟩
  rw [← hG]
  have HGG := Aside0.mk hG
  clear hG
  go_enter Tryd.func75, Tryd.ntmps75
  have BEL : Aside0 (BelN w 2 ((w.alloc (.cells #[.bool b0, .slice A n0 c, .int .i64 x0] 27)).alloc (.cells #[.bool false, .slice none 0 0, .int .i64 0, .bool false] 51))) := ⟨(((BelN.zero w).alloc _).alloc _).less (by decide)⟩
  have X0 : Aside0 (((w.alloc (.cells #[.bool b0, .slice A n0 c, .int .i64 x0] 27)).alloc (.cells #[.bool false, .slice none 0 0, .int .i64 0, .bool false] 51)).heap[w.heap.size]? = some (.cells #[.bool b0, .slice A n0 c, .int .i64 x0] 27 (0, 0))) := ⟨by have h := blk_new w (.cells #[.bool b0, .slice A n0 c, .int .i64 x0] 27); exact blk_alloc (h) _⟩
  have XR : Aside0 (((w.alloc (.cells #[.bool b0, .slice A n0 c, .int .i64 x0] 27)).alloc (.cells #[.bool false, .slice none 0 0, .int .i64 0, .bool false] 51)).heap[w.heap.size + 1]? = some (.cells #[.bool false, .slice none 0 0, .int .i64 0, .bool false] 51 (0, 0))) := ⟨by have h := blk_new (w.alloc (.cells #[.bool b0, .slice A n0 c, .int .i64 x0] 27)) (.cells #[.bool false, .slice none 0 0, .int .i64 0, .bool false] 51); rw [size_alloc'] at h; exact h⟩
  have G1 := Aside0.mk (blk_alloc (blk_alloc HG1.out (.cells #[.bool b0, .slice A n0 c, .int .i64 x0] 27)) (.cells #[.bool false, .slice none 0 0, .int .i64 0, .bool false] 51))
  have G2 := Aside0.mk (blk_alloc (blk_alloc HG2.out (.cells #[.bool b0, .slice A n0 c, .int .i64 x0] 27)) (.cells #[.bool false, .slice none 0 0, .int .i64 0, .bool false] 51))
  obtain ⟨q0, q0'⟩ := box_cell X0.out 0 rfl
  obtain ⟨q1, q1'⟩ := box_cell X0.out 1 rfl
  obtain ⟨q2, q2'⟩ := box_cell X0.out 2 rfl
  obtain ⟨q3, q3'⟩ := box_cell G1.out 0 rfl
  go_wp2_with fail
  clear q0 q0' q1 q1' q2 q2' q3 q3'
  go_at_call 76
  refine (QI.out _ BEL.out.1).mono ?_
  rintro en1 w1 ⟨rfl, hb⟩
  replace BEL := Aside0.mk (BEL.out.next hb)
  replace X0 := Aside0.mk (blk_below X0.out hb)
  replace XR := Aside0.mk (blk_below XR.out hb)
  replace G1 := Aside0.mk (blk_below G1.out hb)
  replace G2 := Aside0.mk (blk_below G2.out hb)
  replace P0 := Aside0.mk (P0.out.below hb)
  clear hb
  by_cases hz : z = M
  case pos =>
    have hd : decide (z = M) = true := decide_eq_true hz
    have HZ := Aside0.mk hz
    clear hz
    obtain ⟨q4, q4'⟩ := box_cell G2.out 0 rfl
    obtain ⟨q5, q5'⟩ := box_cell G2.out 1 rfl
    obtain ⟨q6, q6'⟩ := box_cell G2.out 2 rfl
    obtain ⟨q7, q7'⟩ := box_cell G2.out 3 rfl
    go_wp2_with (clear q4 q4' q5 q5' q6 q6' q7 q7'; ((with_reducible refine gate_store (p := 4) rfl ?_); go_must (refine store_box 51 4 (.tmp 8) rfl rfl rfl (g := w.heap.size + 1) (e := 51) (.agg #[.bool tb, .slice tA tn tc, .int .i64 tx, .bool true]) ([.bool tb, .slice tA tn tc, .int .i64 tx, .bool true]) rfl rfl rfl info_told ?b1 XR.out rfl ?_; (case b1 => intro q hq; simp at hq; rcases hq with rfl | rfl | rfl | rfl <;> rfl); intro wb hbx hgx; have HX := Aside0.mk hbx; have HG := Aside0.mk hgx; clear hbx hgx)); replace P0 := Aside0.mk (P0.out.grown_box XR.out (by decide) HG.out); replace BEL := Aside0.mk (BEL.out.grown HG.out (by omega)); replace X0 := Aside0.mk (blk_grown X0.out HG.out (by have h_g := HGS.out; omega)); replace G1 := Aside0.mk (blk_grown G1.out HG.out (by have h_g := HGS.out; omega)); replace G2 := Aside0.mk (blk_grown G2.out HG.out (by have h_g := HGS.out; omega)); replace XR := HX; clear HG)
    refine bodyPost_ret (results_told rfl _ _ (w.heap.size + 1) _ rfl XR.out rfl) rfl ?_
    rw [HGG.out, if_pos HZ.out]
    exact ⟨_, rfl, P0.out, BEL.out.1⟩
  case neg =>
    have hd : decide (z = M) = false := decide_eq_false hz
    have HZ := Aside0.mk hz
    clear hz
    go_wp2_with (((with_reducible refine gate_store (p := 4) rfl ?_); go_must (refine store_box 51 4 (.tmp 9) rfl rfl rfl (g := w.heap.size + 1) (e := 51) (.agg #[.bool false, .slice none 0 0, .int .i64 0, .bool false]) ([.bool false, .slice none 0 0, .int .i64 0, .bool false]) rfl rfl rfl info_told ?b1 XR.out rfl ?_; (case b1 => intro q hq; simp at hq; rcases hq with rfl | rfl | rfl | rfl <;> rfl); intro wb hbx hgx; have HX := Aside0.mk hbx; have HG := Aside0.mk hgx; clear hbx hgx)); replace P0 := Aside0.mk (P0.out.grown_box XR.out (by decide) HG.out); replace BEL := Aside0.mk (BEL.out.grown HG.out (by omega)); replace X0 := Aside0.mk (blk_grown X0.out HG.out (by have h_g := HGS.out; omega)); replace G1 := Aside0.mk (blk_grown G1.out HG.out (by have h_g := HGS.out; omega)); replace G2 := Aside0.mk (blk_grown G2.out HG.out (by have h_g := HGS.out; omega)); replace XR := HX; clear HG)
    refine bodyPost_ret (results_told rfl _ _ (w.heap.size + 1) _ rfl XR.out rfl) rfl ?_
    rw [HGG.out, if_neg HZ.out]
    exact ⟨_, rfl, PO.none _ _, BEL.out.1⟩

/-- 2^n less so much, over the unit 2^(min n 0). -/
def powV (n less : Int) : Int × Int := (2 ^ (n - min n 0).toNat - less * 2 ^ (-(min n 0)).toNat, min n 0)
theorem PDy.pow {W : World} {b : Nat} {v : Value} {n : Int} (h : PDy W b v 1 n) : PDy W b v (2 ^ (n - min n 0).toNat) (min n 0) := by
  have q := PDy.scale (e := min n 0) (n - min n 0).toNat (by rw [show min n 0 + ((n - min n 0).toNat : Int) = n by omega]; exact h)
  rw [Int.one_mul] at q
  exact q
theorem PDy.down {W : World} {b : Nat} {v : Value} {n l : Int} (h : PDy W b v l 0) : PDy W b v (l * 2 ^ (-(min n 0)).toNat) (min n 0) :=
  PDy.scale (e := min n 0) (-(min n 0)).toNat (by rw [show min n 0 + ((-(min n 0)).toNat : Int) = 0 by omega]; exact h)
theorem pow_Ok {n : Int} (h1 : -16384 ≤ n) (h2 : n ≤ 16384) : Ok (2 ^ (n - min n 0).toNat) (min n 0) := Ok.of _ (sm_pow _) (by omega) (by omega) (by omega)
theorem down_Ok {n l : Int} (h1 : -16384 ≤ n) (h2 : n ≤ 16384) (hl : l.natAbs < 2 ^ 20) : Ok (l * 2 ^ (-(min n 0)).toNat) (min n 0) := Ok.of _ (sm_mul hl) (by omega) (by omega) (by omega)
theorem smallF_in {M z lo hi n : Int} (hM : 0 < M) (h : smallF M z lo hi = some n) : lo ≤ n ∧ n ≤ hi := by
  unfold smallF at h
  split at h
  · rename_i h1
    obtain ⟨-, h2, h3⟩ := h1
    cases h
    exact ⟨Int.le_ediv_of_mul_le hM h2, Int.ediv_le_of_le_mul hM h3⟩
  · cases h

set_option maxRecDepth 100000 in
set_option maxHeartbeats 8000000 in
theorem power2_any {u : Value} {z lo hi less : Int} {g1 g2 g3 g4 : Nat} {w : World} (h : CDy w u z (-1074)) (o : Ok z (-1074)) (hlo : -16384 ≤ lo) (hhi : hi ≤ 16384) (hl0 : lo.natAbs < 2 ^ 20) (hh0 : hi.natAbs < 2 ^ 20) (hl : less.natAbs < 2 ^ 20)
    (h1 : w.heap[g1]? = some (.cells #[.int .i64 lo] 2 (0, 0))) (h2 : w.heap[g2]? = some (.cells #[.int .i64 hi] 2 (0, 0))) (h3 : w.heap[g3]? = some (.cells #[.int .i64 2] 3 (0, 0))) (h4 : w.heap[g4]? = some (.cells #[.int .i64 less] 2 (0, 0))) (hT : TabAt 0 Lib.deBruijn64tab w) :
    Calls Tryd.prog 77 #[u, .pointer (some ⟨g1, 0, none⟩), .pointer (some ⟨g2, 0, none⟩), .pointer (some ⟨g3, 0, none⟩), .pointer (some ⟨g4, 0, none⟩)] w fun en w' => ∃ v', en = .returned v' ∧ PO w' w.heap.size v' ((smallF (2 ^ 1074) z lo hi).map (fun n => powV n less)) ∧ Below w.heap.size w w' := by
  obtain ⟨b0, A, n0, c, x0, rfl⟩ := h.ex
  have HGS := Aside0.mk (And.intro (lt_blk h1) (And.intro (lt_blk h2) (And.intro (lt_blk h3) (lt_blk h4))))
  have HG1 := Aside0.mk h1
  have HG2 := Aside0.mk h2
  have HG3 := Aside0.mk h3
  have HG4 := Aside0.mk h4
  have HT := Aside0.mk hT
  have L1 := Aside0.mk (And.intro (show -9223372036854775808 ≤ less by omega) (show less < 9223372036854775808 by omega))
  have HL := Aside0.mk hl
  have QS := Aside0.mk (fun (W : World) (hb : Below w.heap.size w W) => small_any lo hi (h.below hb) o hl0 hh0 (tab_below hT hb))
  have HIN := Aside0.mk (fun (n : Int) (hn : smallF (2 ^ 1074) z lo hi = some n) => (by
    have q := smallF_in (Int.pow_pos (by decide)) hn
    omega : -16384 ≤ n ∧ n ≤ 16384))
  clear h o h1 h2 h3 h4 hT hlo hhi hl0 hh0 hl
  generalize smallF (2 ^ 1074) z lo hi = sf at *
  go_enter Tryd.func77, Tryd.ntmps77
  have BEL : Aside0 (BelN w 2 ((w.alloc (.cells #[.bool b0, .slice A n0 c, .int .i64 x0] 27)).alloc (.cells #[.bool false, .slice none 0 0, .int .i64 0, .bool false] 51))) := ⟨(((BelN.zero w).alloc _).alloc _).less (by decide)⟩
  have X0 : Aside0 (((w.alloc (.cells #[.bool b0, .slice A n0 c, .int .i64 x0] 27)).alloc (.cells #[.bool false, .slice none 0 0, .int .i64 0, .bool false] 51)).heap[w.heap.size]? = some (.cells #[.bool b0, .slice A n0 c, .int .i64 x0] 27 (0, 0))) := ⟨by have h := blk_new w (.cells #[.bool b0, .slice A n0 c, .int .i64 x0] 27); exact blk_alloc (h) _⟩
  have XR : Aside0 (((w.alloc (.cells #[.bool b0, .slice A n0 c, .int .i64 x0] 27)).alloc (.cells #[.bool false, .slice none 0 0, .int .i64 0, .bool false] 51)).heap[w.heap.size + 1]? = some (.cells #[.bool false, .slice none 0 0, .int .i64 0, .bool false] 51 (0, 0))) := ⟨by have h := blk_new (w.alloc (.cells #[.bool b0, .slice A n0 c, .int .i64 x0] 27)) (.cells #[.bool false, .slice none 0 0, .int .i64 0, .bool false] 51); rw [size_alloc'] at h; exact h⟩
  have G1 := Aside0.mk (blk_alloc (blk_alloc HG1.out (.cells #[.bool b0, .slice A n0 c, .int .i64 x0] 27)) (.cells #[.bool false, .slice none 0 0, .int .i64 0, .bool false] 51))
  have G2 := Aside0.mk (blk_alloc (blk_alloc HG2.out (.cells #[.bool b0, .slice A n0 c, .int .i64 x0] 27)) (.cells #[.bool false, .slice none 0 0, .int .i64 0, .bool false] 51))
  have G3 := Aside0.mk (blk_alloc (blk_alloc HG3.out (.cells #[.bool b0, .slice A n0 c, .int .i64 x0] 27)) (.cells #[.bool false, .slice none 0 0, .int .i64 0, .bool false] 51))
  have G4 := Aside0.mk (blk_alloc (blk_alloc HG4.out (.cells #[.bool b0, .slice A n0 c, .int .i64 x0] 27)) (.cells #[.bool false, .slice none 0 0, .int .i64 0, .bool false] 51))
  obtain ⟨q0, q0'⟩ := box_cell X0.out 0 rfl
  obtain ⟨q1, q1'⟩ := box_cell X0.out 1 rfl
  obtain ⟨q2, q2'⟩ := box_cell X0.out 2 rfl
  obtain ⟨q3, q3'⟩ := box_cell G1.out 0 rfl
  obtain ⟨q4, q4'⟩ := box_cell G2.out 0 rfl
  go_wp2_with fail
  clear q0 q0' q1 q1' q2 q2' q3 q3' q4 q4'
  go_at_call 78
  refine (QS.out _ BEL.out.1).mono ?_
  rintro en1 w1 ⟨rfl, hb⟩
  replace BEL := Aside0.mk (BEL.out.next hb)
  replace X0 := Aside0.mk (blk_below X0.out hb)
  replace XR := Aside0.mk (blk_below XR.out hb)
  replace G1 := Aside0.mk (blk_below G1.out hb)
  replace G2 := Aside0.mk (blk_below G2.out hb)
  replace G3 := Aside0.mk (blk_below G3.out hb)
  replace G4 := Aside0.mk (blk_below G4.out hb)
  clear hb
  cases hsf : sf
  case none =>
    have HSF := Aside0.mk hsf
    clear hsf
    go_wp2_with (((with_reducible refine gate_store (p := 6) rfl ?_); go_must (refine store_box 51 6 (.tmp 19) rfl rfl rfl (g := w.heap.size + 1) (e := 51) (.agg #[.bool false, .slice none 0 0, .int .i64 0, .bool false]) ([.bool false, .slice none 0 0, .int .i64 0, .bool false]) rfl rfl rfl info_told ?b1 XR.out rfl ?_; (case b1 => intro q hq; simp at hq; rcases hq with rfl | rfl | rfl | rfl <;> rfl); intro wb hbx hgx; have HX := Aside0.mk hbx; have HG := Aside0.mk hgx; clear hbx hgx)); replace BEL := Aside0.mk (BEL.out.grown HG.out (by omega)); replace X0 := Aside0.mk (blk_grown X0.out HG.out (by have h_g := HGS.out; omega)); replace G1 := Aside0.mk (blk_grown G1.out HG.out (by have h_g := HGS.out; omega)); replace G2 := Aside0.mk (blk_grown G2.out HG.out (by have h_g := HGS.out; omega)); replace G3 := Aside0.mk (blk_grown G3.out HG.out (by have h_g := HGS.out; omega)); replace G4 := Aside0.mk (blk_grown G4.out HG.out (by have h_g := HGS.out; omega)); replace XR := HX; clear HG)
    refine bodyPost_ret (results_told rfl _ _ (w.heap.size + 1) _ rfl XR.out rfl) rfl ?_
    rw [HSF.out]
    exact ⟨_, rfl, PO.none _ _, BEL.out.1⟩
  case some n =>
    have HIB := Aside0.mk (HIN.out n hsf)
    have HSF := Aside0.mk hsf
    clear hsf
    go_wp2_with fail
    go_at_call 79
    refine (ppower_dy n _).mono ?_
    have BL2 := BEL
    rintro en2 w2 ⟨v2, rfl, hr, hb⟩
    replace BEL := Aside0.mk (BEL.out.next hb)
    replace X0 := Aside0.mk (blk_below X0.out hb)
    replace XR := Aside0.mk (blk_below XR.out hb)
    replace G1 := Aside0.mk (blk_below G1.out hb)
    replace G2 := Aside0.mk (blk_below G2.out hb)
    replace G3 := Aside0.mk (blk_below G3.out hb)
    replace G4 := Aside0.mk (blk_below G4.out hb)
    have P1 := Aside0.mk hr
    obtain ⟨b2, A2, n2, c2, x2, rfl⟩ := hr.ex
    clear hr hb
    have BLW := BEL
    have BELo := BEL
    go_wp2_with (replace BEL := Aside0.mk ((BEL.out.alloc (.cells #[.bool false, .slice none 0 0, .int .i64 0] 27)).less (j := 2) (by omega)); have HN := Aside0.mk (blk_new w2 (.cells #[.bool false, .slice none 0 0, .int .i64 0] 27)); have L_X0 := lt_blk X0.out; replace X0 := Aside0.mk (blk_alloc X0.out (.cells #[.bool false, .slice none 0 0, .int .i64 0] 27)); have L_XR := lt_blk XR.out; replace XR := Aside0.mk (blk_alloc XR.out (.cells #[.bool false, .slice none 0 0, .int .i64 0] 27)); have L_G1 := lt_blk G1.out; replace G1 := Aside0.mk (blk_alloc G1.out (.cells #[.bool false, .slice none 0 0, .int .i64 0] 27)); have L_G2 := lt_blk G2.out; replace G2 := Aside0.mk (blk_alloc G2.out (.cells #[.bool false, .slice none 0 0, .int .i64 0] 27)); have L_G3 := lt_blk G3.out; replace G3 := Aside0.mk (blk_alloc G3.out (.cells #[.bool false, .slice none 0 0, .int .i64 0] 27)); have L_G4 := lt_blk G4.out; replace G4 := Aside0.mk (blk_alloc G4.out (.cells #[.bool false, .slice none 0 0, .int .i64 0] 27)); replace P1 := Aside0.mk (P1.out.below (below_alloc (Below.refl _ _) (.cells #[.bool false, .slice none 0 0, .int .i64 0] 27))); ((with_reducible refine gate_store (p := 9) rfl ?_); go_must (refine store_box 27 9 (.tmp 21) rfl rfl rfl (g := w2.heap.size) (e := 27) (.agg #[.bool b2, .slice A2 n2 c2, .int .i64 x2]) ([.bool b2, .slice A2 n2 c2, .int .i64 x2]) rfl rfl rfl info_dyad ?b1 HN.out rfl ?_; (case b1 => intro q hq; simp at hq; rcases hq with rfl | rfl | rfl <;> rfl); intro wb hbx hgx; have HX := Aside0.mk hbx; have HG := Aside0.mk hgx; clear hbx hgx)); replace P1 := Aside0.mk (P1.out.grown_box HN.out (by decide) HG.out); have LB_XD := BELo.out.2; replace BEL := Aside0.mk (BEL.out.grown HG.out (Nat.le_trans (Nat.le_add_right _ _) LB_XD)); replace X0 := Aside0.mk (blk_grown X0.out HG.out (Nat.ne_of_lt L_X0)); replace XR := Aside0.mk (blk_grown XR.out HG.out (Nat.ne_of_lt L_XR)); replace G1 := Aside0.mk (blk_grown G1.out HG.out (Nat.ne_of_lt L_G1)); replace G2 := Aside0.mk (blk_grown G2.out HG.out (Nat.ne_of_lt L_G2)); replace G3 := Aside0.mk (blk_grown G3.out HG.out (Nat.ne_of_lt L_G3)); replace G4 := Aside0.mk (blk_grown G4.out HG.out (Nat.ne_of_lt L_G4)); have NE_X0_XD := Aside0.mk (Nat.ne_of_lt L_X0); have NE_XR_XD := Aside0.mk (Nat.ne_of_lt L_XR); have NE_G1_XD := Aside0.mk (Nat.ne_of_lt L_G1); have NE_G2_XD := Aside0.mk (Nat.ne_of_lt L_G2); have NE_G3_XD := Aside0.mk (Nat.ne_of_lt L_G3); have NE_G4_XD := Aside0.mk (Nat.ne_of_lt L_G4); clear L_X0; clear L_XR; clear L_G1; clear L_G2; clear L_G3; clear L_G4; have LL_XD := Aside0.mk LB_XD; clear LB_XD; have XD := HX; clear HG HN HX; obtain ⟨q5, q5'⟩ := box_cell G3.out 0 rfl)
    replace P1 := Aside0.mk P1.out.pow
    have HTN := Aside0.mk (pow_Ok HIB.out.1 HIB.out.2)
    have HLS := Aside0.mk (down_Ok HIB.out.1 HIB.out.2 HL.out)
    have BL3 := BEL
    go_upto_region 7 with fail
    obtain ⟨GM, hGM⟩ : ∃ G : (Nat → Prop) → (Nat → Value) → World → Prop, G = fun L v W => BelN w 2 W ∧ W.heap[w2.heap.size]? = some (.cells #[.bool b2, .slice A2 n2 c2, .int .i64 x2] 27 (0, 0)) ∧ W.heap[g4]? = some (.cells #[.int .i64 less] 2 (0, 0)) ∧ PDy W w.heap.size (.agg #[.bool b2, .slice A2 n2 c2, .int .i64 x2]) (2 ^ (n - min n 0).toNat) (min n 0) ∧ (L 0 → (v 0) = .agg #[.bool b2, .slice A2 n2 c2, .int .i64 x2]) ∧ (L 1 → (v 1) = .int .i64 less) ∧ (L 2 → PDy W w.heap.size (v 2) (less * 2 ^ (-(min n 0)).toNat) (min n 0)) ∧ (L 3 → PDy W w.heap.size (v 3) (2 ^ (n - min n 0).toNat - less * 2 ^ (-(min n 0)).toNat) (min n 0)) ∧ (L 4 → PT W w.heap.size (v 4) (2 ^ (n - min n 0).toNat - less * 2 ^ (-(min n 0)).toNat) (min n 0) true) ∧ ((¬ L 5 → W.heap[w.heap.size + 1]? = some (.cells #[.bool false, .slice none 0 0, .int .i64 0, .bool false] 51 (0, 0))) ∧ (L 5 → ∃ (bb : Bool) (A : Option Addr) (n c : Nat) (x : Int) (b2 : Bool), (v 4) = .agg #[.bool bb, .slice A n c, .int .i64 x, .bool b2] ∧ W.heap[w.heap.size + 1]? = some (.cells #[.bool bb, .slice A n c, .int .i64 x, .bool b2] 51 (0, 0)))) := ⟨_, rfl⟩
    refine wp_region_slotsV [26, 27, 28, 29, 30] (by kernel_rfl) (by kernel_rfl) (G := GM) ?h0M ?hstepM ?hendM
    case h0M =>
      intro v; rw [hGM]
      exact ⟨BEL.out.next (below_drew (Below.refl _ _)), blk_drew XD.out, blk_drew G4.out, (P1.out.below (below_drew (Below.refl _ _))).lower (Nat.le_trans (Nat.le_add_right _ _) BL2.out.2), fun h => h.elim, fun h => h.elim, fun h => h.elim, fun h => h.elim, fun h => h.elim, ⟨fun _ => blk_drew XR.out, fun h => h.elim⟩⟩
    case hstepM =>
      intro k o ho v W L hGv hnk haft hcl K hK
      rw [hGM] at hGv
      obtain ⟨hB, hb0, hb1, hk0, f0, f1, f2, f3, f4, f5⟩ := hGv
      rcases k with _ | _ | _ | _ | _ | _ | k
      all_goals first
        | (cases ho; done)
        | (obtain rfl := (Option.some.inj ho).symm
           clear ho
           rw [if_pos (by rfl)]
           simp only [setAll, List.setIfInBounds_toArray, List.set_cons_zero, List.set_cons_succ, List.set_nil, List.getElem_toArray, List.getElem_cons_zero, List.getElem_cons_succ, Nat.reduceAdd] at haft hK ⊢)
      case zero =>
        have cc0 := (box_cell (v := .bool b2) hb0 0 rfl).1
        have cc1 := (box_cell (v := .slice A2 n2 c2) hb0 1 rfl).1
        have cc2 := (box_cell (v := .int .i64 x2) hb0 2 rfl).1
        have hb := Below.refl W.heap.size W
        have key := hK.out (.agg #[.bool b2, .slice A2 n2 c2, .int .i64 x2]) W (by rw [hGM]; exact ⟨hB.next hb, blk_below hb0 hb, blk_below hb1 hb, hk0.below hb, fun _ => by rw [upd_eq], (kv f1 (by decide)), (kd f2 (by decide) hb), (kd f3 (by decide) hb), (fun h => by rw [upd_ne v _ (by decide)]; exact (f4 (h.resolve_right (by decide))).below hb), (⟨fun h2 => blk_below (f5.1 (fun h3 => h2 (.inl h3))) hb, fun h2 => by rw [upd_ne v _ (by decide)]; obtain ⟨bb, A, n, c, x, b2, y1, y2⟩ := f5.2 (h2.resolve_right (by decide)); exact ⟨bb, A, n, c, x, b2, y1, blk_below y2 hb⟩⟩)⟩)
        clear hb0 hb1 hk0 f0 f1 f2 f3 f4 f5 hb hK
        go_simp
        simpa [upd] using key
      case succ.zero =>
        have cc0 := (box_cell (v := .int .i64 less) hb1 0 rfl).1
        have hb := Below.refl W.heap.size W
        have key := hK.out (.int .i64 less) W (by rw [hGM]; exact ⟨hB.next hb, blk_below hb0 hb, blk_below hb1 hb, hk0.below hb, (kv f0 (by decide)), fun _ => by rw [upd_eq], (kd f2 (by decide) hb), (kd f3 (by decide) hb), (fun h => by rw [upd_ne v _ (by decide)]; exact (f4 (h.resolve_right (by decide))).below hb), (⟨fun h2 => blk_below (f5.1 (fun h3 => h2 (.inl h3))) hb, fun h2 => by rw [upd_ne v _ (by decide)]; obtain ⟨bb, A, n, c, x, b2, y1, y2⟩ := f5.2 (h2.resolve_right (by decide)); exact ⟨bb, A, n, c, x, b2, y1, blk_below y2 hb⟩⟩)⟩)
        clear hb0 hb1 hk0 f0 f1 f2 f3 f4 f5 hb hK
        go_simp
        simpa [upd] using key
      case succ.succ.zero =>
        have d1 := f1 (haft { on := 1, ground := .data } (by simp) rfl)
        have D1 := d1
        have HALL := Aside0.mk (And.intro hK (And.intro hB (And.intro hb0 ( And.intro hb1 ( And.intro hk0 ( And.intro f0 ( And.intro f1 ( And.intro f2 ( And.intro f3 ( And.intro f4 ( And.intro f5 (True.intro))))))))))))
        clear hK hb0 hb1 hk0 f0 f1 f2 f3 f4 f5
        go_simp
        go_at_call 68
        refine (pint_dy less _ L1.out.1 L1.out.2 (tab_below HT.out hB.1)).mono ?_
        rintro en w4 ⟨v1, rfl, hr, hb⟩
        obtain ⟨hK, hB, hb0, hb1, hk0, f0, f1, f2, f3, f4, f5, _⟩ := HALL.out
        have key := hK.out (v1) w4 (by rw [hGM]; exact ⟨hB.next hb, blk_below hb0 hb, blk_below hb1 hb, hk0.below hb, (kv f0 (by decide)), (kv f1 (by decide)), fun _ => by rw [upd_eq]; exact (hr.down).lower (Nat.le_trans (Nat.le_add_right _ _) hB.2), (kd f3 (by decide) hb), (fun h => by rw [upd_ne v _ (by decide)]; exact (f4 (h.resolve_right (by decide))).below hb), (⟨fun h2 => blk_below (f5.1 (fun h3 => h2 (.inl h3))) hb, fun h2 => by rw [upd_ne v _ (by decide)]; obtain ⟨bb, A, n, c, x, b2, y1, y2⟩ := f5.2 (h2.resolve_right (by decide)); exact ⟨bb, A, n, c, x, b2, y1, blk_below y2 hb⟩⟩)⟩)
        clear hb0 hb1 hk0 f0 f1 f2 f3 f4 f5 hK HALL
        simpa [upd, D1] using key
      case succ.succ.succ.zero =>
        have d0 := f0 (haft { on := 0, ground := .data } (by simp) rfl)
        have D0 := d0
        have d2 := f2 (haft { on := 2, ground := .data } (by simp) rfl)
        have D2 := d2
        have K1 := hk0
        have HALL := Aside0.mk (And.intro hK (And.intro hB (And.intro hb0 ( And.intro hb1 ( And.intro hk0 ( And.intro f0 ( And.intro f1 ( And.intro f2 ( And.intro f3 ( And.intro f4 ( And.intro f5 (True.intro))))))))))))
        clear hK hb0 hb1 hk0 f0 f1 f2 f3 f4 f5
        go_simp
        go_at_call 81
        refine (sub_ok K1.c d2.c HTN.out HLS.out (tab_below HT.out hB.1)).mono ?_
        rintro en w4 ⟨v1, rfl, hr, hb⟩
        obtain ⟨hK, hB, hb0, hb1, hk0, f0, f1, f2, f3, f4, f5, _⟩ := HALL.out
        have key := hK.out (v1) w4 (by rw [hGM]; exact ⟨hB.next hb, blk_below hb0 hb, blk_below hb1 hb, hk0.below hb, (kv f0 (by decide)), (kv f1 (by decide)), (kd f2 (by decide) hb), fun _ => by rw [upd_eq]; exact hr.lower (Nat.le_trans (Nat.le_add_right _ _) hB.2), (fun h => by rw [upd_ne v _ (by decide)]; exact (f4 (h.resolve_right (by decide))).below hb), (⟨fun h2 => blk_below (f5.1 (fun h3 => h2 (.inl h3))) hb, fun h2 => by rw [upd_ne v _ (by decide)]; obtain ⟨bb, A, n, c, x, b2, y1, y2⟩ := f5.2 (h2.resolve_right (by decide)); exact ⟨bb, A, n, c, x, b2, y1, blk_below y2 hb⟩⟩)⟩)
        clear hb0 hb1 hk0 f0 f1 f2 f3 f4 f5 hK HALL
        simpa [upd, D0] using key
      case succ.succ.succ.succ.zero =>
        have hns5 : ¬ L 5 := fun hs => hnk (hcl 5 _ rfl hs { on := 4, ground := .data } (by simp) rfl)
        have d3 := f3 (haft { on := 3, ground := .data } (by simp) rfl)
        have D3 := d3
        have HALL := Aside0.mk (And.intro hK (And.intro hB (And.intro hb0 ( And.intro hb1 ( And.intro hk0 ( And.intro f0 ( And.intro f1 ( And.intro f2 ( And.intro f3 ( And.intro f4 ( And.intro f5 (True.intro))))))))))))
        clear hK hb0 hb1 hk0 f0 f1 f2 f3 f4 f5
        go_simp
        go_at_call 67
        refine (number_any d3).mono ?_
        rintro en w4 ⟨v1, rfl, hr, hb⟩
        obtain ⟨hK, hB, hb0, hb1, hk0, f0, f1, f2, f3, f4, f5, _⟩ := HALL.out
        have key := hK.out (v1) w4 (by rw [hGM]; exact ⟨hB.next hb, blk_below hb0 hb, blk_below hb1 hb, hk0.below hb, (kv f0 (by decide)), (kv f1 (by decide)), (kd f2 (by decide) hb), (kd f3 (by decide) hb), fun _ => by rw [upd_eq]; exact hr, (⟨fun h2 => blk_below (f5.1 (fun h3 => h2 (.inl h3))) hb, fun h2 => (hns5 (h2.resolve_right (by decide))).elim⟩)⟩)
        clear hb0 hb1 hk0 f0 f1 f2 f3 f4 f5 hK HALL
        simpa [upd] using key
      case succ.succ.succ.succ.succ.zero =>
        have h_g := HGS.out
        have h_n := NE_XR_XD.out
        have hgb := f5.1 hnk
        have ds := f4 (haft { on := 4, ground := .data } (by simp) rfl)
        obtain ⟨bb, A, n, c, x, b2, es⟩ := ds.ex
        refine wp_store_box 51 6 (.tmp 30) rfl rfl (g := w.heap.size + 1) (e := 51) (v 4) [.bool bb, .slice A n c, .int .i64 x, .bool b2] (by first | rfl | exact rfl) rfl (by rw [es]; rfl) info_told ?_ hgb rfl ?_
        · intro q hq; simp at hq; rcases hq with rfl | rfl | rfl | rfl <;> rfl
        · intro w1 hw1 hg
          have key := hK.out undef w1 (by rw [hGM]; exact ⟨hB.grown hg (by omega), blk_grown hb0 hg (by omega), blk_grown hb1 hg (by omega), hk0.grown_box hgb (by decide) hg, (kv f0 (by decide)), (kv f1 (by decide)), (kg f2 (by decide) hgb (by decide) hg), (kg f3 (by decide) hgb (by decide) hg), (fun h => by rw [upd_ne v _ (by decide)]; exact (f4 (h.resolve_right (by decide))).grown_box hgb (by decide) hg), ⟨fun h => (h (.inr rfl)).elim, fun _ => by rw [upd_ne v _ (by decide)]; exact ⟨bb, A, n, c, x, b2, es, hw1⟩⟩⟩)
          clear hb0 hb1 hk0 f0 f1 f2 f3 f4 f5 hK
          simpa [upd] using key
    case hendM =>
      intro v W L0 hall hGv
      rw [hGM] at hGv
      obtain ⟨hB, hb0, hb1, hk0, f0, f1, f2, f3, f4, f5⟩ := hGv
      have d4 := f4 (hall 4 (by decide))
      obtain ⟨b9, A9, n9, c9, x9, s9, p9, hx9⟩ := f5.2 (hall 5 (by decide))
      rw [p9] at d4
      replace BEL := Aside0.mk hB
      replace XR := Aside0.mk hx9
      have P9 := Aside0.mk d4
      clear hall f0 f1 f2 f3 f4 f5 hB hb0 hb1 hk0 d4 hx9
      simp only [setAll, List.setIfInBounds_toArray, List.set_cons_zero, List.set_cons_succ, Nat.reduceAdd, p9]
      go_wp2
      refine bodyPost_ret (results_told rfl _ _ (w.heap.size + 1) _ rfl XR.out rfl) rfl ?_
      rw [HSF.out]
      exact ⟨_, rfl, P9.out.some, BEL.out.1⟩

set_option maxRecDepth 100000 in
set_option maxHeartbeats 8000000 in
theorem power10_any {u : Value} {z lo hi less : Int} {g1 g2 g3 g4 : Nat} {w : World} (h : CDy w u z (-1074)) (o : Ok z (-1074)) (hlo : -16384 ≤ lo) (hhi : hi ≤ 16384) (hl0 : lo.natAbs < 2 ^ 20) (hh0 : hi.natAbs < 2 ^ 20) (hl : less.natAbs < 2 ^ 20) (hten : 0 ≤ lo) (hten2 : hi ≤ 50)
    (h1 : w.heap[g1]? = some (.cells #[.int .i64 lo] 2 (0, 0))) (h2 : w.heap[g2]? = some (.cells #[.int .i64 hi] 2 (0, 0))) (h3 : w.heap[g3]? = some (.cells #[.int .i64 10] 3 (0, 0))) (h4 : w.heap[g4]? = some (.cells #[.int .i64 less] 2 (0, 0))) (hT : TabAt 0 Lib.deBruijn64tab w) :
    Calls Tryd.prog 77 #[u, .pointer (some ⟨g1, 0, none⟩), .pointer (some ⟨g2, 0, none⟩), .pointer (some ⟨g3, 0, none⟩), .pointer (some ⟨g4, 0, none⟩)] w fun en w' => ∃ v', en = .returned v' ∧ PO w' w.heap.size v' ((smallF (2 ^ 1074) z lo hi).map (fun n => (tenI n.toNat - less, 0))) ∧ Below w.heap.size w w' := by
  obtain ⟨b0, A, n0, c, x0, rfl⟩ := h.ex
  have HGS := Aside0.mk (And.intro (lt_blk h1) (And.intro (lt_blk h2) (And.intro (lt_blk h3) (lt_blk h4))))
  have HG1 := Aside0.mk h1
  have HG2 := Aside0.mk h2
  have HG3 := Aside0.mk h3
  have HG4 := Aside0.mk h4
  have HT := Aside0.mk hT
  have L1 := Aside0.mk (And.intro (show -9223372036854775808 ≤ less by omega) (show less < 9223372036854775808 by omega))
  have HL := Aside0.mk hl
  have QS := Aside0.mk (fun (W : World) (hb : Below w.heap.size w W) => small_any lo hi (h.below hb) o hl0 hh0 (tab_below hT hb))
  have HIN := Aside0.mk (fun (n : Int) (hn : smallF (2 ^ 1074) z lo hi = some n) => (by
    have q := smallF_in (Int.pow_pos (by decide)) hn
    omega : -16384 ≤ n ∧ n ≤ 16384 ∧ 0 ≤ n ∧ n ≤ 50))
  clear h o h1 h2 h3 h4 hT hlo hhi hl0 hh0 hl hten hten2
  generalize smallF (2 ^ 1074) z lo hi = sf at *
  go_enter Tryd.func77, Tryd.ntmps77
  have BEL : Aside0 (BelN w 2 ((w.alloc (.cells #[.bool b0, .slice A n0 c, .int .i64 x0] 27)).alloc (.cells #[.bool false, .slice none 0 0, .int .i64 0, .bool false] 51))) := ⟨(((BelN.zero w).alloc _).alloc _).less (by decide)⟩
  have X0 : Aside0 (((w.alloc (.cells #[.bool b0, .slice A n0 c, .int .i64 x0] 27)).alloc (.cells #[.bool false, .slice none 0 0, .int .i64 0, .bool false] 51)).heap[w.heap.size]? = some (.cells #[.bool b0, .slice A n0 c, .int .i64 x0] 27 (0, 0))) := ⟨by have h := blk_new w (.cells #[.bool b0, .slice A n0 c, .int .i64 x0] 27); exact blk_alloc (h) _⟩
  have XR : Aside0 (((w.alloc (.cells #[.bool b0, .slice A n0 c, .int .i64 x0] 27)).alloc (.cells #[.bool false, .slice none 0 0, .int .i64 0, .bool false] 51)).heap[w.heap.size + 1]? = some (.cells #[.bool false, .slice none 0 0, .int .i64 0, .bool false] 51 (0, 0))) := ⟨by have h := blk_new (w.alloc (.cells #[.bool b0, .slice A n0 c, .int .i64 x0] 27)) (.cells #[.bool false, .slice none 0 0, .int .i64 0, .bool false] 51); rw [size_alloc'] at h; exact h⟩
  have G1 := Aside0.mk (blk_alloc (blk_alloc HG1.out (.cells #[.bool b0, .slice A n0 c, .int .i64 x0] 27)) (.cells #[.bool false, .slice none 0 0, .int .i64 0, .bool false] 51))
  have G2 := Aside0.mk (blk_alloc (blk_alloc HG2.out (.cells #[.bool b0, .slice A n0 c, .int .i64 x0] 27)) (.cells #[.bool false, .slice none 0 0, .int .i64 0, .bool false] 51))
  have G3 := Aside0.mk (blk_alloc (blk_alloc HG3.out (.cells #[.bool b0, .slice A n0 c, .int .i64 x0] 27)) (.cells #[.bool false, .slice none 0 0, .int .i64 0, .bool false] 51))
  have G4 := Aside0.mk (blk_alloc (blk_alloc HG4.out (.cells #[.bool b0, .slice A n0 c, .int .i64 x0] 27)) (.cells #[.bool false, .slice none 0 0, .int .i64 0, .bool false] 51))
  obtain ⟨q0, q0'⟩ := box_cell X0.out 0 rfl
  obtain ⟨q1, q1'⟩ := box_cell X0.out 1 rfl
  obtain ⟨q2, q2'⟩ := box_cell X0.out 2 rfl
  obtain ⟨q3, q3'⟩ := box_cell G1.out 0 rfl
  obtain ⟨q4, q4'⟩ := box_cell G2.out 0 rfl
  go_wp2_with fail
  clear q0 q0' q1 q1' q2 q2' q3 q3' q4 q4'
  go_at_call 78
  refine (QS.out _ BEL.out.1).mono ?_
  rintro en1 w1 ⟨rfl, hb⟩
  replace BEL := Aside0.mk (BEL.out.next hb)
  replace X0 := Aside0.mk (blk_below X0.out hb)
  replace XR := Aside0.mk (blk_below XR.out hb)
  replace G1 := Aside0.mk (blk_below G1.out hb)
  replace G2 := Aside0.mk (blk_below G2.out hb)
  replace G3 := Aside0.mk (blk_below G3.out hb)
  replace G4 := Aside0.mk (blk_below G4.out hb)
  clear hb
  cases hsf : sf
  case none =>
    have HSF := Aside0.mk hsf
    clear hsf
    go_wp2_with (((with_reducible refine gate_store (p := 6) rfl ?_); go_must (refine store_box 51 6 (.tmp 19) rfl rfl rfl (g := w.heap.size + 1) (e := 51) (.agg #[.bool false, .slice none 0 0, .int .i64 0, .bool false]) ([.bool false, .slice none 0 0, .int .i64 0, .bool false]) rfl rfl rfl info_told ?b1 XR.out rfl ?_; (case b1 => intro q hq; simp at hq; rcases hq with rfl | rfl | rfl | rfl <;> rfl); intro wb hbx hgx; have HX := Aside0.mk hbx; have HG := Aside0.mk hgx; clear hbx hgx)); replace BEL := Aside0.mk (BEL.out.grown HG.out (by omega)); replace X0 := Aside0.mk (blk_grown X0.out HG.out (by have h_g := HGS.out; omega)); replace G1 := Aside0.mk (blk_grown G1.out HG.out (by have h_g := HGS.out; omega)); replace G2 := Aside0.mk (blk_grown G2.out HG.out (by have h_g := HGS.out; omega)); replace G3 := Aside0.mk (blk_grown G3.out HG.out (by have h_g := HGS.out; omega)); replace G4 := Aside0.mk (blk_grown G4.out HG.out (by have h_g := HGS.out; omega)); replace XR := HX; clear HG)
    refine bodyPost_ret (results_told rfl _ _ (w.heap.size + 1) _ rfl XR.out rfl) rfl ?_
    rw [HSF.out]
    exact ⟨_, rfl, PO.none _ _, BEL.out.1⟩
  case some n =>
    have HIB := Aside0.mk (HIN.out n hsf)
    have HSF := Aside0.mk hsf
    clear hsf
    obtain ⟨k, rfl⟩ := Int.eq_ofNat_of_zero_le HIB.out.2.2.1
    have HK := Aside0.mk (show k ≤ 50 by have := HIB.out; omega)
    go_wp2_with fail
    go_at_call 79
    refine (ppower_dy ((k : Nat) : Int) _).mono ?_
    have BL2 := BEL
    rintro en2 w2 ⟨v2, rfl, hr, hb⟩
    replace BEL := Aside0.mk (BEL.out.next hb)
    replace X0 := Aside0.mk (blk_below X0.out hb)
    replace XR := Aside0.mk (blk_below XR.out hb)
    replace G1 := Aside0.mk (blk_below G1.out hb)
    replace G2 := Aside0.mk (blk_below G2.out hb)
    replace G3 := Aside0.mk (blk_below G3.out hb)
    replace G4 := Aside0.mk (blk_below G4.out hb)
    have P1 := Aside0.mk hr
    obtain ⟨b2, A2, n2, c2, x2, rfl⟩ := hr.ex
    clear hr hb
    have BLW := BEL
    have BELo := BEL
    go_wp2_with (replace BEL := Aside0.mk ((BEL.out.alloc (.cells #[.bool false, .slice none 0 0, .int .i64 0] 27)).less (j := 2) (by omega)); have HN := Aside0.mk (blk_new w2 (.cells #[.bool false, .slice none 0 0, .int .i64 0] 27)); have L_X0 := lt_blk X0.out; replace X0 := Aside0.mk (blk_alloc X0.out (.cells #[.bool false, .slice none 0 0, .int .i64 0] 27)); have L_XR := lt_blk XR.out; replace XR := Aside0.mk (blk_alloc XR.out (.cells #[.bool false, .slice none 0 0, .int .i64 0] 27)); have L_G1 := lt_blk G1.out; replace G1 := Aside0.mk (blk_alloc G1.out (.cells #[.bool false, .slice none 0 0, .int .i64 0] 27)); have L_G2 := lt_blk G2.out; replace G2 := Aside0.mk (blk_alloc G2.out (.cells #[.bool false, .slice none 0 0, .int .i64 0] 27)); have L_G3 := lt_blk G3.out; replace G3 := Aside0.mk (blk_alloc G3.out (.cells #[.bool false, .slice none 0 0, .int .i64 0] 27)); have L_G4 := lt_blk G4.out; replace G4 := Aside0.mk (blk_alloc G4.out (.cells #[.bool false, .slice none 0 0, .int .i64 0] 27)); replace P1 := Aside0.mk (P1.out.below (below_alloc (Below.refl _ _) (.cells #[.bool false, .slice none 0 0, .int .i64 0] 27))); ((with_reducible refine gate_store (p := 9) rfl ?_); go_must (refine store_box 27 9 (.tmp 21) rfl rfl rfl (g := w2.heap.size) (e := 27) (.agg #[.bool b2, .slice A2 n2 c2, .int .i64 x2]) ([.bool b2, .slice A2 n2 c2, .int .i64 x2]) rfl rfl rfl info_dyad ?b1 HN.out rfl ?_; (case b1 => intro q hq; simp at hq; rcases hq with rfl | rfl | rfl <;> rfl); intro wb hbx hgx; have HX := Aside0.mk hbx; have HG := Aside0.mk hgx; clear hbx hgx)); replace P1 := Aside0.mk (P1.out.grown_box HN.out (by decide) HG.out); have LB_XD := BELo.out.2; replace BEL := Aside0.mk (BEL.out.grown HG.out (Nat.le_trans (Nat.le_add_right _ _) LB_XD)); replace X0 := Aside0.mk (blk_grown X0.out HG.out (Nat.ne_of_lt L_X0)); replace XR := Aside0.mk (blk_grown XR.out HG.out (Nat.ne_of_lt L_XR)); replace G1 := Aside0.mk (blk_grown G1.out HG.out (Nat.ne_of_lt L_G1)); replace G2 := Aside0.mk (blk_grown G2.out HG.out (Nat.ne_of_lt L_G2)); replace G3 := Aside0.mk (blk_grown G3.out HG.out (Nat.ne_of_lt L_G3)); replace G4 := Aside0.mk (blk_grown G4.out HG.out (Nat.ne_of_lt L_G4)); have NE_X0_XD := Aside0.mk (Nat.ne_of_lt L_X0); have NE_XR_XD := Aside0.mk (Nat.ne_of_lt L_XR); have NE_G1_XD := Aside0.mk (Nat.ne_of_lt L_G1); have NE_G2_XD := Aside0.mk (Nat.ne_of_lt L_G2); have NE_G3_XD := Aside0.mk (Nat.ne_of_lt L_G3); have NE_G4_XD := Aside0.mk (Nat.ne_of_lt L_G4); clear L_X0; clear L_XR; clear L_G1; clear L_G2; clear L_G3; clear L_G4; have LL_XD := Aside0.mk LB_XD; clear LB_XD; have XD := HX; clear HG HN HX; obtain ⟨q5, q5'⟩ := box_cell G3.out 0 rfl)
    clear q5 q5'
    go_at_call 80
    refine (ten_any k HK.out _ (tab_below HT.out BEL.out.1)).mono ?_
    have BL4 := BEL
    rintro en3 w3 ⟨v3, rfl, hr, hb⟩
    replace BEL := Aside0.mk (BEL.out.next hb)
    replace X0 := Aside0.mk (blk_below X0.out hb)
    replace XR := Aside0.mk (blk_below XR.out hb)
    replace G1 := Aside0.mk (blk_below G1.out hb)
    replace G2 := Aside0.mk (blk_below G2.out hb)
    replace G3 := Aside0.mk (blk_below G3.out hb)
    replace G4 := Aside0.mk (blk_below G4.out hb)
    replace XD := Aside0.mk (blk_below XD.out hb)
    replace P1 := Aside0.mk (P1.out.below hb)
    have P2 := Aside0.mk hr
    obtain ⟨b3, A3, n3, c3, x3, rfl⟩ := hr.ex
    clear hr hb
    go_wp2_with (((with_reducible refine gate_store (p := 9) rfl ?_); go_must (refine store_box 27 9 (.tmp 25) rfl rfl rfl (g := w2.heap.size) (e := 27) (.agg #[.bool b3, .slice A3 n3 c3, .int .i64 x3]) ([.bool b3, .slice A3 n3 c3, .int .i64 x3]) rfl rfl rfl info_dyad ?b1 XD.out rfl ?_; (case b1 => intro q hq; simp at hq; rcases hq with rfl | rfl | rfl <;> rfl); intro wb hbx hgx; have HX := Aside0.mk hbx; have HG := Aside0.mk hgx; clear hbx hgx)); replace P1 := Aside0.mk (P1.out.grown_box XD.out (by decide) HG.out); replace P2 := Aside0.mk (P2.out.grown_box XD.out (by decide) HG.out); replace BEL := Aside0.mk (BEL.out.grown HG.out (Nat.le_trans (Nat.le_add_right _ _) LL_XD.out)); replace X0 := Aside0.mk (blk_grown X0.out HG.out NE_X0_XD.out); replace XR := Aside0.mk (blk_grown XR.out HG.out NE_XR_XD.out); replace G1 := Aside0.mk (blk_grown G1.out HG.out NE_G1_XD.out); replace G2 := Aside0.mk (blk_grown G2.out HG.out NE_G2_XD.out); replace G3 := Aside0.mk (blk_grown G3.out HG.out NE_G3_XD.out); replace G4 := Aside0.mk (blk_grown G4.out HG.out NE_G4_XD.out); replace XD := HX; clear HG)
    have HTN : Aside0 (Ok (tenI k) 0) := ⟨Ok.of _ (tenI_small (i := k) (by have := HK.out; omega)) (by decide) (by decide) (by decide)⟩
    have HLS : Aside0 (Ok less 0) := ⟨Ok.of 20 HL.out (by decide) (by decide) (by decide)⟩
    have BL3 := BEL
    go_upto_region 7 with fail
    obtain ⟨GM, hGM⟩ : ∃ G : (Nat → Prop) → (Nat → Value) → World → Prop, G = fun L v W => BelN w 2 W ∧ W.heap[w2.heap.size]? = some (.cells #[.bool b3, .slice A3 n3 c3, .int .i64 x3] 27 (0, 0)) ∧ W.heap[g4]? = some (.cells #[.int .i64 less] 2 (0, 0)) ∧ PDy W w.heap.size (.agg #[.bool b3, .slice A3 n3 c3, .int .i64 x3]) (tenI k) 0 ∧ (L 0 → (v 0) = .agg #[.bool b3, .slice A3 n3 c3, .int .i64 x3]) ∧ (L 1 → (v 1) = .int .i64 less) ∧ (L 2 → PDy W w.heap.size (v 2) less 0) ∧ (L 3 → PDy W w.heap.size (v 3) (tenI k - less) 0) ∧ (L 4 → PT W w.heap.size (v 4) (tenI k - less) 0 true) ∧ ((¬ L 5 → W.heap[w.heap.size + 1]? = some (.cells #[.bool false, .slice none 0 0, .int .i64 0, .bool false] 51 (0, 0))) ∧ (L 5 → ∃ (bb : Bool) (A : Option Addr) (n c : Nat) (x : Int) (b2 : Bool), (v 4) = .agg #[.bool bb, .slice A n c, .int .i64 x, .bool b2] ∧ W.heap[w.heap.size + 1]? = some (.cells #[.bool bb, .slice A n c, .int .i64 x, .bool b2] 51 (0, 0)))) := ⟨_, rfl⟩
    refine wp_region_slotsV [26, 27, 28, 29, 30] (by kernel_rfl) (by kernel_rfl) (G := GM) ?h0M ?hstepM ?hendM
    case h0M =>
      intro v; rw [hGM]
      exact ⟨BEL.out.next (below_drew (Below.refl _ _)), blk_drew XD.out, blk_drew G4.out, (P2.out.below (below_drew (Below.refl _ _))).lower (Nat.le_trans (Nat.le_add_right _ _) BL4.out.2), fun h => h.elim, fun h => h.elim, fun h => h.elim, fun h => h.elim, fun h => h.elim, ⟨fun _ => blk_drew XR.out, fun h => h.elim⟩⟩
    case hstepM =>
      intro k o ho v W L hGv hnk haft hcl K hK
      rw [hGM] at hGv
      obtain ⟨hB, hb0, hb1, hk0, f0, f1, f2, f3, f4, f5⟩ := hGv
      rcases k with _ | _ | _ | _ | _ | _ | k
      all_goals first
        | (cases ho; done)
        | (obtain rfl := (Option.some.inj ho).symm
           clear ho
           rw [if_pos (by rfl)]
           simp only [setAll, List.setIfInBounds_toArray, List.set_cons_zero, List.set_cons_succ, List.set_nil, List.getElem_toArray, List.getElem_cons_zero, List.getElem_cons_succ, Nat.reduceAdd] at haft hK ⊢)
      case zero =>
        have cc0 := (box_cell (v := .bool b3) hb0 0 rfl).1
        have cc1 := (box_cell (v := .slice A3 n3 c3) hb0 1 rfl).1
        have cc2 := (box_cell (v := .int .i64 x3) hb0 2 rfl).1
        have hb := Below.refl W.heap.size W
        have key := hK.out (.agg #[.bool b3, .slice A3 n3 c3, .int .i64 x3]) W (by rw [hGM]; exact ⟨hB.next hb, blk_below hb0 hb, blk_below hb1 hb, hk0.below hb, fun _ => by rw [upd_eq], (kv f1 (by decide)), (kd f2 (by decide) hb), (kd f3 (by decide) hb), (fun h => by rw [upd_ne v _ (by decide)]; exact (f4 (h.resolve_right (by decide))).below hb), (⟨fun h2 => blk_below (f5.1 (fun h3 => h2 (.inl h3))) hb, fun h2 => by rw [upd_ne v _ (by decide)]; obtain ⟨bb, A, n, c, x, b2, y1, y2⟩ := f5.2 (h2.resolve_right (by decide)); exact ⟨bb, A, n, c, x, b2, y1, blk_below y2 hb⟩⟩)⟩)
        clear hb0 hb1 hk0 f0 f1 f2 f3 f4 f5 hb hK
        go_simp
        simpa [upd] using key
      case succ.zero =>
        have cc0 := (box_cell (v := .int .i64 less) hb1 0 rfl).1
        have hb := Below.refl W.heap.size W
        have key := hK.out (.int .i64 less) W (by rw [hGM]; exact ⟨hB.next hb, blk_below hb0 hb, blk_below hb1 hb, hk0.below hb, (kv f0 (by decide)), fun _ => by rw [upd_eq], (kd f2 (by decide) hb), (kd f3 (by decide) hb), (fun h => by rw [upd_ne v _ (by decide)]; exact (f4 (h.resolve_right (by decide))).below hb), (⟨fun h2 => blk_below (f5.1 (fun h3 => h2 (.inl h3))) hb, fun h2 => by rw [upd_ne v _ (by decide)]; obtain ⟨bb, A, n, c, x, b2, y1, y2⟩ := f5.2 (h2.resolve_right (by decide)); exact ⟨bb, A, n, c, x, b2, y1, blk_below y2 hb⟩⟩)⟩)
        clear hb0 hb1 hk0 f0 f1 f2 f3 f4 f5 hb hK
        go_simp
        simpa [upd] using key
      case succ.succ.zero =>
        have d1 := f1 (haft { on := 1, ground := .data } (by simp) rfl)
        have D1 := d1
        have HALL := Aside0.mk (And.intro hK (And.intro hB (And.intro hb0 ( And.intro hb1 ( And.intro hk0 ( And.intro f0 ( And.intro f1 ( And.intro f2 ( And.intro f3 ( And.intro f4 ( And.intro f5 (True.intro))))))))))))
        clear hK hb0 hb1 hk0 f0 f1 f2 f3 f4 f5
        go_simp
        go_at_call 68
        refine (pint_dy less _ L1.out.1 L1.out.2 (tab_below HT.out hB.1)).mono ?_
        rintro en w4 ⟨v1, rfl, hr, hb⟩
        obtain ⟨hK, hB, hb0, hb1, hk0, f0, f1, f2, f3, f4, f5, _⟩ := HALL.out
        have key := hK.out (v1) w4 (by rw [hGM]; exact ⟨hB.next hb, blk_below hb0 hb, blk_below hb1 hb, hk0.below hb, (kv f0 (by decide)), (kv f1 (by decide)), fun _ => by rw [upd_eq]; exact (hr).lower (Nat.le_trans (Nat.le_add_right _ _) hB.2), (kd f3 (by decide) hb), (fun h => by rw [upd_ne v _ (by decide)]; exact (f4 (h.resolve_right (by decide))).below hb), (⟨fun h2 => blk_below (f5.1 (fun h3 => h2 (.inl h3))) hb, fun h2 => by rw [upd_ne v _ (by decide)]; obtain ⟨bb, A, n, c, x, b2, y1, y2⟩ := f5.2 (h2.resolve_right (by decide)); exact ⟨bb, A, n, c, x, b2, y1, blk_below y2 hb⟩⟩)⟩)
        clear hb0 hb1 hk0 f0 f1 f2 f3 f4 f5 hK HALL
        simpa [upd, D1] using key
      case succ.succ.succ.zero =>
        have d0 := f0 (haft { on := 0, ground := .data } (by simp) rfl)
        have D0 := d0
        have d2 := f2 (haft { on := 2, ground := .data } (by simp) rfl)
        have D2 := d2
        have K1 := hk0
        have HALL := Aside0.mk (And.intro hK (And.intro hB (And.intro hb0 ( And.intro hb1 ( And.intro hk0 ( And.intro f0 ( And.intro f1 ( And.intro f2 ( And.intro f3 ( And.intro f4 ( And.intro f5 (True.intro))))))))))))
        clear hK hb0 hb1 hk0 f0 f1 f2 f3 f4 f5
        go_simp
        go_at_call 81
        refine (sub_ok K1.c d2.c HTN.out HLS.out (tab_below HT.out hB.1)).mono ?_
        rintro en w4 ⟨v1, rfl, hr, hb⟩
        obtain ⟨hK, hB, hb0, hb1, hk0, f0, f1, f2, f3, f4, f5, _⟩ := HALL.out
        have key := hK.out (v1) w4 (by rw [hGM]; exact ⟨hB.next hb, blk_below hb0 hb, blk_below hb1 hb, hk0.below hb, (kv f0 (by decide)), (kv f1 (by decide)), (kd f2 (by decide) hb), fun _ => by rw [upd_eq]; exact hr.lower (Nat.le_trans (Nat.le_add_right _ _) hB.2), (fun h => by rw [upd_ne v _ (by decide)]; exact (f4 (h.resolve_right (by decide))).below hb), (⟨fun h2 => blk_below (f5.1 (fun h3 => h2 (.inl h3))) hb, fun h2 => by rw [upd_ne v _ (by decide)]; obtain ⟨bb, A, n, c, x, b2, y1, y2⟩ := f5.2 (h2.resolve_right (by decide)); exact ⟨bb, A, n, c, x, b2, y1, blk_below y2 hb⟩⟩)⟩)
        clear hb0 hb1 hk0 f0 f1 f2 f3 f4 f5 hK HALL
        simpa [upd, D0] using key
      case succ.succ.succ.succ.zero =>
        have hns5 : ¬ L 5 := fun hs => hnk (hcl 5 _ rfl hs { on := 4, ground := .data } (by simp) rfl)
        have d3 := f3 (haft { on := 3, ground := .data } (by simp) rfl)
        have D3 := d3
        have HALL := Aside0.mk (And.intro hK (And.intro hB (And.intro hb0 ( And.intro hb1 ( And.intro hk0 ( And.intro f0 ( And.intro f1 ( And.intro f2 ( And.intro f3 ( And.intro f4 ( And.intro f5 (True.intro))))))))))))
        clear hK hb0 hb1 hk0 f0 f1 f2 f3 f4 f5
        go_simp
        go_at_call 67
        refine (number_any d3).mono ?_
        rintro en w4 ⟨v1, rfl, hr, hb⟩
        obtain ⟨hK, hB, hb0, hb1, hk0, f0, f1, f2, f3, f4, f5, _⟩ := HALL.out
        have key := hK.out (v1) w4 (by rw [hGM]; exact ⟨hB.next hb, blk_below hb0 hb, blk_below hb1 hb, hk0.below hb, (kv f0 (by decide)), (kv f1 (by decide)), (kd f2 (by decide) hb), (kd f3 (by decide) hb), fun _ => by rw [upd_eq]; exact hr, (⟨fun h2 => blk_below (f5.1 (fun h3 => h2 (.inl h3))) hb, fun h2 => (hns5 (h2.resolve_right (by decide))).elim⟩)⟩)
        clear hb0 hb1 hk0 f0 f1 f2 f3 f4 f5 hK HALL
        simpa [upd] using key
      case succ.succ.succ.succ.succ.zero =>
        have h_g := HGS.out
        have h_n := NE_XR_XD.out
        have hgb := f5.1 hnk
        have ds := f4 (haft { on := 4, ground := .data } (by simp) rfl)
        obtain ⟨bb, A, n, c, x, b2, es⟩ := ds.ex
        refine wp_store_box 51 6 (.tmp 30) rfl rfl (g := w.heap.size + 1) (e := 51) (v 4) [.bool bb, .slice A n c, .int .i64 x, .bool b2] (by first | rfl | exact rfl) rfl (by rw [es]; rfl) info_told ?_ hgb rfl ?_
        · intro q hq; simp at hq; rcases hq with rfl | rfl | rfl | rfl <;> rfl
        · intro w1 hw1 hg
          have key := hK.out undef w1 (by rw [hGM]; exact ⟨hB.grown hg (by omega), blk_grown hb0 hg (by omega), blk_grown hb1 hg (by omega), hk0.grown_box hgb (by decide) hg, (kv f0 (by decide)), (kv f1 (by decide)), (kg f2 (by decide) hgb (by decide) hg), (kg f3 (by decide) hgb (by decide) hg), (fun h => by rw [upd_ne v _ (by decide)]; exact (f4 (h.resolve_right (by decide))).grown_box hgb (by decide) hg), ⟨fun h => (h (.inr rfl)).elim, fun _ => by rw [upd_ne v _ (by decide)]; exact ⟨bb, A, n, c, x, b2, es, hw1⟩⟩⟩)
          clear hb0 hb1 hk0 f0 f1 f2 f3 f4 f5 hK
          simpa [upd] using key
    case hendM =>
      intro v W L0 hall hGv
      rw [hGM] at hGv
      obtain ⟨hB, hb0, hb1, hk0, f0, f1, f2, f3, f4, f5⟩ := hGv
      have d4 := f4 (hall 4 (by decide))
      obtain ⟨b9, A9, n9, c9, x9, s9, p9, hx9⟩ := f5.2 (hall 5 (by decide))
      rw [p9] at d4
      replace BEL := Aside0.mk hB
      replace XR := Aside0.mk hx9
      have P9 := Aside0.mk d4
      clear hall f0 f1 f2 f3 f4 f5 hB hb0 hb1 hk0 d4 hx9
      simp only [setAll, List.setIfInBounds_toArray, List.set_cons_zero, List.set_cons_succ, Nat.reduceAdd, p9]
      go_wp2
      refine bodyPost_ret (results_told rfl _ _ (w.heap.size + 1) _ rfl XR.out rfl) rfl ?_
      rw [HSF.out]
      exact ⟨_, rfl, P9.out.some, BEL.out.1⟩
end Go.Proofs.YtgpjplelgffocaaDoor
