/- Part 4 of the library of this claim: what the program and the document compute, as contracts of their functions. -/
import Derived.Test.YtgpjplelgffocaaDoorR3
import Derived.MapKept
import Derived.Carry
namespace Go.Proofs.YtgpjplelgffocaaDoor
open Go.RowKit Go.Proofs.YtgpjplelgffocaaDoorW.PrintWords Limb
set_option linter.unusedVariables false
set_option linter.unusedSimpArgs false

/-- A function of the program that a call enters. -/
def Enters (m : Nat) : Prop := ∀ (args : Array Value) (W : World), (callFunc m args).run Tryd.prog W = .ok (.enter m args) W
/-- A function value that tells G z of a number z, in all later worlds. -/
def Clo (w : World) (b m : Nat) (cap : Array Value) (G : Int → Option (Int × Int)) : Prop :=
  Enters m ∧ ∀ (W : World) (u : Value) (z : Int), Below w.heap.size w W → CDy W u z (-1074) → z.natAbs < 2 ^ 2098 → TabAt 0 Lib.deBruijn64tab W →
    Calls Tryd.prog m (#[u] ++ cap) W fun en W' => ∃ v', en = .returned v' ∧ PO W' b v' (G z) ∧ Below W.heap.size W W'
theorem Clo.below {w w1 : World} {b m : Nat} {cap : Array Value} {G : Int → Option (Int × Int)} (h : Clo w b m cap G) (hb : Below w.heap.size w w1) : Clo w1 b m cap G :=
  ⟨h.1, fun W u z hW hu hz hT => h.2 W u z (below_then hb hb.size hW) hu hz hT⟩
/-- A function of places on the circle. -/
def SpotFn (m : Nat) (K : Int → Int → Option (Int × Int)) : Prop :=
  Enters m ∧ ∀ (W : World) (b : Nat) (v : Value) (k r : Int), PS W b v k r (-1074) → r.natAbs < 2 ^ 3500 → (k = 0 ∨ k = 1 ∨ k = 2 ∨ k = 3) → TabAt 0 Lib.deBruijn64tab W →
    Calls Tryd.prog m #[v] W fun en W' => ∃ v', en = .returned v' ∧ PO W' W.heap.size v' (K k r) ∧ Below W.heap.size W W'
theorem mod4 (n : Int) : n % 4 = 0 ∨ n % 4 = 1 ∨ n % 4 = 2 ∨ n % 4 = 3 := by omega
theorem left_small {z : Int} (hz : z.natAbs < 2 ^ 2098) : (z - nearF z 1072 * 2 ^ 1073).natAbs < 2 ^ 3500 :=
  sm_le (m := 3500) (sm_sub (sm_le (m := 2098 + 3 + 1073) hz (by decide)) (sm_mul (nearF_small hz (by decide)))) (by decide)
theorem ok_r {r : Int} (h : r.natAbs < 2 ^ 3500) : Ok r (-1074) := Ok.of _ h (by decide) (by decide) (by decide)
theorem PO.spot {w : World} {b : Nat} {v : Value} {r s : Int} (h : PT w b v (if r = 0 then s else 0) 0 (decide (r = 0))) : PO w b v (if r = 0 then Option.some (s, 0) else Option.none) := by
  by_cases hr : r = 0
  · rw [if_pos hr, decide_eq_true hr] at h
    rw [if_pos hr]; exact h.some
  · rw [if_neg hr, decide_eq_false hr] at h
    rw [if_neg hr]; exact h
theorem PO.ex6 {w : World} {b : Nat} {v : Value} {o : Option (Int × Int)} (h : PO w b v o) : ∃ bb A n c x s, v = .agg #[.bool bb, .slice A n c, .int .i64 x, .bool s] ∧ s = o.isSome := by
  obtain ⟨bb, A, n, c, x, rfl⟩ := PT.ex5 h; exact ⟨_, _, _, _, _, _, rfl, rfl⟩
theorem enters_of {f : Nat} {fn : Func} (hf : Tryd.prog.funcs[f]? = some fn) (hname : (fn.name == "runtime.NumGoroutine") = false) (hb : fn.body.isNone = false) : Enters f := by
  intro args W
  have h1 : fn.name ≠ "runtime.NumGoroutine" := by simpa using hname
  have h2 : fn.body ≠ Option.none := by intro h; rw [h] at hb; cases hb
  simp [callFunc, hf, h1, h2, Sem.run]
theorem sine_fn : SpotFn 57 (fun k r => if r = 0 then some (sel 0 1 0 (-1) k, 0) else none) := ⟨enters_of Tryd.func57 rfl rfl, fun W b v k r h hr hk hT =>
  (sine_any h (ok_r hr) hk hT).mono fun en W' h => by
    obtain ⟨v', h1, h2, h3⟩ := h; exact ⟨v', h1, PO.spot h2, h3⟩⟩
theorem cosine_fn : SpotFn 58 (fun k r => if r = 0 then some (sel 1 0 (-1) 0 k, 0) else none) := ⟨enters_of Tryd.func58 rfl rfl, fun W b v k r h hr hk hT =>
  (cosine_any h (ok_r hr) hk hT).mono fun en W' h => by
    obtain ⟨v', h1, h2, h3⟩ := h; exact ⟨v', h1, PO.spot h2, h3⟩⟩
theorem tangent_fn : SpotFn 59 (fun k r => tanF k r (2 ^ 1072)) := ⟨enters_of Tryd.func59 rfl rfl, fun W b v k r h hr hk hT =>
  tangent_any h (ok_r hr) (ok_r (by rw [Int.natAbs_natCast]; exact hr)) hk hT⟩

set_option maxRecDepth 100000 in
set_option maxHeartbeats 8000000 in
theorem turned1_any {u : Value} {z : Int} {m g1 : Nat} {K : Int → Int → Option (Int × Int)} {w : World} (h : CDy w u z (-1074)) (hz : z.natAbs < 2 ^ 2098) (hF : SpotFn m K)
    (h1 : w.heap[g1]? = some (.cells #[.func (.func m) #[] #[]] 79 (0, 0))) (hT : TabAt 0 Lib.deBruijn64tab w) :
    Calls Tryd.prog 84 #[u, .pointer (some ⟨g1, 0, none⟩)] w fun en w' => ∃ v', en = .returned v' ∧ PO w' w.heap.size v' (K (nearF z 1072 % 4) (z - nearF z 1072 * 2 ^ 1073)) ∧ Below w.heap.size w w' := by
  obtain ⟨b0, A, n0, c, x0, rfl⟩ := h.ex
  have HGS := Aside0.mk (lt_blk h1)
  have HG1 := Aside0.mk h1
  have HT := Aside0.mk hT
  have QO := Aside0.mk (fun (W : World) (hb : Below w.heap.size w W) => spotOf_any (h.below hb) hz (tab_below hT hb))
  have QF := Aside0.mk (fun (W : World) (v : Value) (b : Nat) (hp : PS W b v (nearF z 1072 % 4) (z - nearF z 1072 * 2 ^ 1073) (-1074)) (ht : TabAt 0 Lib.deBruijn64tab W) => hF.2 W b v _ _ hp (left_small hz) (mod4 _) ht)
  have HE := Aside0.mk hF.1
  clear h hz hF h1 hT
  generalize nearF z 1072 % 4 = k at *
  generalize z - nearF z 1072 * 2 ^ 1073 = r at *
  obtain ⟨kr, hkr⟩ : ∃ G, G = K k r := ⟨_, rfl⟩
  rw [← hkr] at QF ⊢
  clear hkr
  go_enter Tryd.func84, Tryd.ntmps84
  go_upto_region 1 with fail
  have BEL : Aside0 (BelN w 2 ((w.alloc (.cells #[.bool b0, .slice A n0 c, .int .i64 x0] 27)).alloc (.cells #[.bool false, .slice none 0 0, .int .i64 0, .bool false] 51))) := ⟨(((BelN.zero w).alloc _).alloc _).less (by decide)⟩
  have X0 : Aside0 (((w.alloc (.cells #[.bool b0, .slice A n0 c, .int .i64 x0] 27)).alloc (.cells #[.bool false, .slice none 0 0, .int .i64 0, .bool false] 51)).heap[w.heap.size]? = some (.cells #[.bool b0, .slice A n0 c, .int .i64 x0] 27 (0, 0))) := ⟨by have h := blk_new w (.cells #[.bool b0, .slice A n0 c, .int .i64 x0] 27); exact blk_alloc (h) _⟩
  have XR : Aside0 (((w.alloc (.cells #[.bool b0, .slice A n0 c, .int .i64 x0] 27)).alloc (.cells #[.bool false, .slice none 0 0, .int .i64 0, .bool false] 51)).heap[w.heap.size + 1]? = some (.cells #[.bool false, .slice none 0 0, .int .i64 0, .bool false] 51 (0, 0))) := ⟨by have h := blk_new (w.alloc (.cells #[.bool b0, .slice A n0 c, .int .i64 x0] 27)) (.cells #[.bool false, .slice none 0 0, .int .i64 0, .bool false] 51); rw [size_alloc'] at h; exact h⟩
  have G1 := Aside0.mk (blk_alloc (blk_alloc HG1.out (.cells #[.bool b0, .slice A n0 c, .int .i64 x0] 27)) (.cells #[.bool false, .slice none 0 0, .int .i64 0, .bool false] 51))
  obtain ⟨GM, hGM⟩ : ∃ G : (Nat → Prop) → (Nat → Value) → World → Prop, G = fun L v W => BelN w 2 W ∧ W.heap[w.heap.size]? = some (.cells #[.bool b0, .slice A n0 c, .int .i64 x0] 27 (0, 0)) ∧ W.heap[g1]? = some (.cells #[.func (.func m) #[] #[]] 79 (0, 0)) ∧ (L 0 → (v 0) = .func (.func m) #[] #[]) ∧ (L 1 → (v 1) = .agg #[.bool b0, .slice A n0 c, .int .i64 x0]) ∧ (L 2 → PS W w.heap.size (v 2) k r (-1074)) ∧ (L 3 → PO W w.heap.size (v 3) kr) ∧ ((¬ L 4 → W.heap[w.heap.size + 1]? = some (.cells #[.bool false, .slice none 0 0, .int .i64 0, .bool false] 51 (0, 0))) ∧ (L 4 → ∃ (bb : Bool) (A : Option Addr) (n c : Nat) (x : Int) (b2 : Bool), (v 3) = .agg #[.bool bb, .slice A n c, .int .i64 x, .bool b2] ∧ W.heap[w.heap.size + 1]? = some (.cells #[.bool bb, .slice A n c, .int .i64 x, .bool b2] 51 (0, 0)))) := ⟨_, rfl⟩
  refine wp_region_slotsV [4, 5, 6, 7] (by kernel_rfl) (by kernel_rfl) (G := GM) ?h0M ?hstepM ?hendM
  case h0M =>
    intro v; rw [hGM]
    exact ⟨BEL.out.next (below_drew (Below.refl _ _)), blk_drew X0.out, blk_drew G1.out, fun h => h.elim, fun h => h.elim, fun h => h.elim, fun h => h.elim, ⟨fun _ => blk_drew XR.out, fun h => h.elim⟩⟩
  case hstepM =>
    intro k o ho v W L hGv hnk haft hcl K hK
    rw [hGM] at hGv
    obtain ⟨hB, hb0, hb1, f0, f1, f2, f3, f4⟩ := hGv
    rcases k with _ | _ | _ | _ | _ | k
    all_goals first
      | (cases ho; done)
      | (obtain rfl := (Option.some.inj ho).symm
         clear ho
         rw [if_pos (by rfl)]
         simp only [setAll, List.setIfInBounds_toArray, List.set_cons_zero, List.set_cons_succ, List.set_nil, List.getElem_toArray, List.getElem_cons_zero, List.getElem_cons_succ, Nat.reduceAdd] at haft hK ⊢)
    case zero =>
      have cc0 := (box_cell (v := .func (.func m) #[] #[]) hb1 0 rfl).1
      have hb := Below.refl W.heap.size W
      have key := hK.out (.func (.func m) #[] #[]) W (by rw [hGM]; exact ⟨hB.next hb, blk_below hb0 hb, blk_below hb1 hb, fun _ => by rw [upd_eq], (kv f1 (by decide)), (fun h => by rw [upd_ne v _ (by decide)]; exact (f2 (h.resolve_right (by decide))).below hb), (fun h => by rw [upd_ne v _ (by decide)]; exact (f3 (h.resolve_right (by decide))).below hb), (⟨fun h2 => blk_below (f4.1 (fun h3 => h2 (.inl h3))) hb, fun h2 => by rw [upd_ne v _ (by decide)]; obtain ⟨bb, A, n, c, x, b2, y1, y2⟩ := f4.2 (h2.resolve_right (by decide)); exact ⟨bb, A, n, c, x, b2, y1, blk_below y2 hb⟩⟩)⟩)
      clear hb0 hb1 f0 f1 f2 f3 f4 hb hK
      go_simp
      simpa [upd] using key
    case succ.zero =>
      have cc0 := (box_cell (v := .bool b0) hb0 0 rfl).1
      have cc1 := (box_cell (v := .slice A n0 c) hb0 1 rfl).1
      have cc2 := (box_cell (v := .int .i64 x0) hb0 2 rfl).1
      have hb := Below.refl W.heap.size W
      have key := hK.out (.agg #[.bool b0, .slice A n0 c, .int .i64 x0]) W (by rw [hGM]; exact ⟨hB.next hb, blk_below hb0 hb, blk_below hb1 hb, (kv f0 (by decide)), fun _ => by rw [upd_eq], (fun h => by rw [upd_ne v _ (by decide)]; exact (f2 (h.resolve_right (by decide))).below hb), (fun h => by rw [upd_ne v _ (by decide)]; exact (f3 (h.resolve_right (by decide))).below hb), (⟨fun h2 => blk_below (f4.1 (fun h3 => h2 (.inl h3))) hb, fun h2 => by rw [upd_ne v _ (by decide)]; obtain ⟨bb, A, n, c, x, b2, y1, y2⟩ := f4.2 (h2.resolve_right (by decide)); exact ⟨bb, A, n, c, x, b2, y1, blk_below y2 hb⟩⟩)⟩)
      clear hb0 hb1 f0 f1 f2 f3 f4 hb hK
      go_simp
      simpa [upd] using key
    case succ.succ.zero =>
      have d1 := f1 (haft { on := 1, ground := .data } (by simp) rfl)
      have D1 := d1
      have HALL := Aside0.mk (And.intro hK (And.intro hB (And.intro hb0 ( And.intro hb1 ( And.intro f0 ( And.intro f1 ( And.intro f2 ( And.intro f3 ( And.intro f4 (True.intro))))))))))
      clear hK hb0 hb1 f0 f1 f2 f3 f4
      go_simp
      go_at_call 74
      refine (QO.out _ hB.1).mono ?_
      rintro en w4 ⟨v1, rfl, hr, hb⟩
      obtain ⟨hK, hB, hb0, hb1, f0, f1, f2, f3, f4, _⟩ := HALL.out
      have key := hK.out (v1) w4 (by rw [hGM]; exact ⟨hB.next hb, blk_below hb0 hb, blk_below hb1 hb, (kv f0 (by decide)), (kv f1 (by decide)), fun _ => by rw [upd_eq]; exact hr.lower (Nat.le_trans (Nat.le_add_right _ _) hB.2), (fun h => by rw [upd_ne v _ (by decide)]; exact (f3 (h.resolve_right (by decide))).below hb), (⟨fun h2 => blk_below (f4.1 (fun h3 => h2 (.inl h3))) hb, fun h2 => by rw [upd_ne v _ (by decide)]; obtain ⟨bb, A, n, c, x, b2, y1, y2⟩ := f4.2 (h2.resolve_right (by decide)); exact ⟨bb, A, n, c, x, b2, y1, blk_below y2 hb⟩⟩)⟩)
      clear hb0 hb1 f0 f1 f2 f3 f4 hK HALL
      simpa [upd, D1] using key
    case succ.succ.succ.zero =>
      have hns4 : ¬ L 4 := fun hs => hnk (hcl 4 _ rfl hs { on := 3, ground := .data } (by simp) rfl)
      have d0 := f0 (haft { on := 0, ground := .data } (by simp) rfl)
      have D0 := d0
      have d2 := f2 (haft { on := 2, ground := .data } (by simp) rfl)
      have D2 := d2
      have HALL := Aside0.mk (And.intro hK (And.intro hB (And.intro hb0 ( And.intro hb1 ( And.intro f0 ( And.intro f1 ( And.intro f2 ( And.intro f3 ( And.intro f4 (True.intro))))))))))
      clear hK hb0 hb1 f0 f1 f2 f3 f4
      have hcf := HE.out
      unfold Enters at hcf
      go_simp
      refine (QF.out _ _ _ d2 (tab_below HT.out hB.1)).mono ?_
      rintro en w4 ⟨v1, rfl, hr, hb⟩
      obtain ⟨hK, hB, hb0, hb1, f0, f1, f2, f3, f4, _⟩ := HALL.out
      have key := hK.out (v1) w4 (by rw [hGM]; exact ⟨hB.next hb, blk_below hb0 hb, blk_below hb1 hb, (kv f0 (by decide)), (kv f1 (by decide)), (fun h => by rw [upd_ne v _ (by decide)]; exact (f2 (h.resolve_right (by decide))).below hb), fun _ => by rw [upd_eq]; exact hr.lower (Nat.le_trans (Nat.le_add_right _ _) hB.2), (⟨fun h2 => blk_below (f4.1 (fun h3 => h2 (.inl h3))) hb, fun h2 => (hns4 (h2.resolve_right (by decide))).elim⟩)⟩)
      clear hb0 hb1 f0 f1 f2 f3 f4 hK HALL
      simpa [upd, D0] using key
    case succ.succ.succ.succ.zero =>
      have h_g := HGS.out
      have hgb := f4.1 hnk
      have ds := f3 (haft { on := 3, ground := .data } (by simp) rfl)
      obtain ⟨bb, A, n, c, x, b2, es⟩ := ds.ex
      refine wp_store_box 51 3 (.tmp 7) rfl rfl (g := w.heap.size + 1) (e := 51) (v 3) [.bool bb, .slice A n c, .int .i64 x, .bool b2] (by first | rfl | exact rfl) rfl (by rw [es]; rfl) info_told ?_ hgb rfl ?_
      · intro q hq; simp at hq; rcases hq with rfl | rfl | rfl | rfl <;> rfl
      · intro w1 hw1 hg
        have key := hK.out undef w1 (by rw [hGM]; exact ⟨hB.grown hg (by omega), blk_grown hb0 hg (by omega), blk_grown hb1 hg (by omega), (kv f0 (by decide)), (kv f1 (by decide)), (fun h => by rw [upd_ne v _ (by decide)]; exact (f2 (h.resolve_right (by decide))).grown_box hgb (by decide) hg), (fun h => by rw [upd_ne v _ (by decide)]; exact (f3 (h.resolve_right (by decide))).grown_box hgb (by decide) hg), ⟨fun h => (h (.inr rfl)).elim, fun _ => by rw [upd_ne v _ (by decide)]; exact ⟨bb, A, n, c, x, b2, es, hw1⟩⟩⟩)
        clear hb0 hb1 f0 f1 f2 f3 f4 hK
        simpa [upd] using key
  case hendM =>
    intro v W L0 hall hGv
    rw [hGM] at hGv
    obtain ⟨hB, hb0, hb1, f0, f1, f2, f3, f4⟩ := hGv
    have d3 := f3 (hall 3 (by decide))
    obtain ⟨b9, A9, n9, c9, x9, s9, p9, hx9⟩ := f4.2 (hall 4 (by decide))
    rw [p9] at d3
    replace BEL := Aside0.mk hB
    replace XR := Aside0.mk hx9
    have P9 := Aside0.mk d3
    clear hall f0 f1 f2 f3 f4 hB hb0 hb1 d3 hx9
    simp only [setAll, List.setIfInBounds_toArray, List.set_cons_zero, List.set_cons_succ, Nat.reduceAdd, p9]
    go_wp2
    refine bodyPost_ret (results_told rfl _ _ (w.heap.size + 1) _ rfl XR.out rfl) rfl ?_
    exact ⟨_, rfl, P9.out, BEL.out.1⟩

def firstF (Gs : Nat → Int → Option (Int × Int)) (z : Int) : Option (Int × Int) := (Gs 0 z).or ((Gs 1 z).or (Gs 2 z))
theorem first_none {Gs : Nat → Int → Option (Int × Int)} {z : Int} (h : ∀ j, j < 3 → Gs j z = none) : firstF Gs z = none := by
  unfold firstF; rw [h 0 (by decide), h 1 (by decide), h 2 (by decide)]; rfl
theorem first_some {Gs : Nat → Int → Option (Int × Int)} {z : Int} {i : Nat} (hi : i < 3) (h : ∀ j, j < i → Gs j z = none) (hs : (Gs i z).isSome = true) : firstF Gs z = Gs i z := by
  unfold firstF
  obtain ⟨y, hy⟩ := Option.isSome_iff_exists.1 hs
  rcases i with _ | _ | _ | i
  · rw [hy]; rfl
  · rw [h 0 (by decide), hy]; rfl
  · rw [h 0 (by decide), h 1 (by decide), hy]; rfl
  · omega
theorem isSome_false {G : Option (Int × Int)} (h : G.isSome = false) : G = none := by
  cases G with
  | none => rfl
  | some y => cases h
set_option maxRecDepth 100000 in
set_option maxHeartbeats 8000000 in
theorem first1_any {u : Value} {z : Int} {b g1 gl : Nat} {ms : Nat → Nat} {caps : Nat → Array Value} {Gs : Nat → Int → Option (Int × Int)} {w : World} (h : CDy w u z (-1074)) (hz : z.natAbs < 2 ^ 2098)
    (hC : ∀ i, i < 3 → Clo w b (ms i) (caps i) (Gs i)) (h1 : w.heap[g1]? = some (.cells #[.slice (some ⟨gl, 0, none⟩) 3 3] 102 (0, 0)))
    (h2 : w.heap[gl]? = some (.cells #[.func (.func (ms 0)) #[] (caps 0), .func (.func (ms 1)) #[] (caps 1), .func (.func (ms 2)) #[] (caps 2)] 55 (0, 0))) (hT : TabAt 0 Lib.deBruijn64tab w) :
    Calls Tryd.prog 86 #[u, .pointer (some ⟨g1, 0, none⟩)] w fun en w' => ∃ v', en = .returned v' ∧ PO w' b v' (firstF Gs z) ∧ Below w.heap.size w w' := by
  obtain ⟨b0, A, n0, c, x0, rfl⟩ := h.ex
  have HGS := Aside0.mk (And.intro (lt_blk h1) (lt_blk h2))
  have HG1 := Aside0.mk h1
  have QC := Aside0.mk (fun (i : Nat) (hi : i < 3) (W : World) (hb : Below w.heap.size w W) => (hC i hi).2 W _ z hb (h.below hb) hz (tab_below hT hb))
  have QE := Aside0.mk (fun (i : Nat) (hi : i < 3) (W : World) (hb : Below w.heap.size w W) => (by
    have q := (box_cell (w := W) (v := .func (.func (ms i)) #[] (caps i)) (blk_below h2 hb) i (by
      rcases i with _ | _ | _ | i
      · rfl
      · rfl
      · rfl
      · omega)).1
    exact q : W.cell? ⟨gl, i, none⟩ = some (.func (.func (ms i)) #[] (caps i))))
  have QEn := Aside0.mk (fun (i : Nat) (hi : i < 3) => (hC i hi).1)
  clear h hz hC h1 h2 hT
  go_enter Tryd.func86, Tryd.ntmps86
  have BEL : Aside0 (BelN w 2 ((w.alloc (.cells #[.bool b0, .slice A n0 c, .int .i64 x0] 27)).alloc (.cells #[.bool false, .slice none 0 0, .int .i64 0, .bool false] 51))) := ⟨(((BelN.zero w).alloc _).alloc _).less (by decide)⟩
  have X0 : Aside0 (((w.alloc (.cells #[.bool b0, .slice A n0 c, .int .i64 x0] 27)).alloc (.cells #[.bool false, .slice none 0 0, .int .i64 0, .bool false] 51)).heap[w.heap.size]? = some (.cells #[.bool b0, .slice A n0 c, .int .i64 x0] 27 (0, 0))) := ⟨by have h := blk_new w (.cells #[.bool b0, .slice A n0 c, .int .i64 x0] 27); exact blk_alloc (h) _⟩
  have XR : Aside0 (((w.alloc (.cells #[.bool b0, .slice A n0 c, .int .i64 x0] 27)).alloc (.cells #[.bool false, .slice none 0 0, .int .i64 0, .bool false] 51)).heap[w.heap.size + 1]? = some (.cells #[.bool false, .slice none 0 0, .int .i64 0, .bool false] 51 (0, 0))) := ⟨by have h := blk_new (w.alloc (.cells #[.bool b0, .slice A n0 c, .int .i64 x0] 27)) (.cells #[.bool false, .slice none 0 0, .int .i64 0, .bool false] 51); rw [size_alloc'] at h; exact h⟩
  have G1 := Aside0.mk (blk_alloc (blk_alloc HG1.out (.cells #[.bool b0, .slice A n0 c, .int .i64 x0] 27)) (.cells #[.bool false, .slice none 0 0, .int .i64 0, .bool false] 51))
  obtain ⟨q0, q0'⟩ := box_cell G1.out 0 rfl
  go_wp2_with fail
  clear q0 q0'
  go_loopw [9] (fun v9 wr => ∃ i : Nat, v9 = .int .i64 i ∧ i ≤ 3 ∧ Aside0 (BelN w 2 wr) ∧ Aside0 (wr.heap[w.heap.size]? = some (.cells #[.bool b0, .slice A n0 c, .int .i64 x0] 27 (0, 0))) ∧ Aside0 (wr.heap[w.heap.size + 1]? = some (.cells #[.bool false, .slice none 0 0, .int .i64 0, .bool false] 51 (0, 0))) ∧ Aside0 (∀ j, j < i → Gs j z = none)) (fun v9 _ => 3 - (intOf v9).toNat)
  case atStart => exact ⟨0, rfl, by decide, BEL, X0, XR, ⟨fun j hj => absurd hj (Nat.not_lt_zero _)⟩⟩
  case round =>
    clear BEL X0 XR
    obtain ⟨i, rfl, hik, BEL, X0, XR, HNO⟩ := hrel
    by_cases hlt : i < 3
    · have hlt' : (i : Int) < 3 := by omega
      have hld : decide ((i : Int) < 3) = true := decide_eq_true hlt'
      have hi0 : (0 : Int) ≤ i := by omega
      have HI := Aside0.mk hlt
      have hce := QE.out i hlt _ BEL.out.1
      have hcf := QEn.out i hlt
      unfold Enters at hcf
      obtain ⟨q0, q0'⟩ := box_cell X0.out 0 rfl
      obtain ⟨q1, q1'⟩ := box_cell X0.out 1 rfl
      obtain ⟨q2, q2'⟩ := box_cell X0.out 2 rfl
      go_wp2_with fail
      clear q0 q0' q1 q1' q2 q2'
      refine (QC.out i HI.out _ BEL.out.1).mono ?_
      rintro en5 w5 ⟨v5, rfl, hr, hb⟩
      replace BEL := Aside0.mk (BEL.out.next hb)
      replace X0 := Aside0.mk (blk_below X0.out hb)
      replace XR := Aside0.mk (blk_below XR.out hb)
      have P5 := Aside0.mk hr
      obtain ⟨b5, A5, n5, c5, x5, s5, rfl, hs⟩ := hr.ex6
      have HS5 := Aside0.mk hs
      clear hs
      clear hr hb
      cases s5
      case true =>
        clear hce hcf
        have BELo := BEL
        go_wp2_with (first | (replace BEL := Aside0.mk ((BEL.out.alloc (.cells #[.bool false, .slice none 0 0, .int .i64 0, .bool false] 51)).less (j := 2) (by omega)); have HN := Aside0.mk (blk_new w5 (.cells #[.bool false, .slice none 0 0, .int .i64 0, .bool false] 51)); have L_X0 := lt_blk X0.out; replace X0 := Aside0.mk (blk_alloc X0.out (.cells #[.bool false, .slice none 0 0, .int .i64 0, .bool false] 51)); have L_XR := lt_blk XR.out; replace XR := Aside0.mk (blk_alloc XR.out (.cells #[.bool false, .slice none 0 0, .int .i64 0, .bool false] 51)); replace P5 := Aside0.mk (P5.out.below (below_alloc (Below.refl _ _) (.cells #[.bool false, .slice none 0 0, .int .i64 0, .bool false] 51))); ((with_reducible refine gate_store (p := 6) rfl ?_); go_must (refine store_box 51 6 (.tmp 15) rfl rfl rfl (g := w5.heap.size) (e := 51) (.agg #[.bool b5, .slice A5 n5 c5, .int .i64 x5, .bool true]) ([.bool b5, .slice A5 n5 c5, .int .i64 x5, .bool true]) rfl rfl rfl info_told ?b1 HN.out rfl ?_; (case b1 => intro q hq; simp at hq; rcases hq with rfl | rfl | rfl | rfl <;> rfl); intro wb hbx hgx; have HX := Aside0.mk hbx; have HG := Aside0.mk hgx; clear hbx hgx)); replace P5 := Aside0.mk (P5.out.grown_box HN.out (by decide) HG.out); have LB_XT := BELo.out.2; replace BEL := Aside0.mk (BEL.out.grown HG.out (Nat.le_trans (Nat.le_add_right _ _) LB_XT)); replace X0 := Aside0.mk (blk_grown X0.out HG.out (Nat.ne_of_lt L_X0)); replace XR := Aside0.mk (blk_grown XR.out HG.out (Nat.ne_of_lt L_XR)); have NE_X0_XT := Aside0.mk (Nat.ne_of_lt L_X0); have NE_XR_XT := Aside0.mk (Nat.ne_of_lt L_XR); clear L_X0; clear L_XR; have LL_XT := Aside0.mk LB_XT; clear LB_XT; have XT := HX; clear HG HN HX; obtain ⟨q3, q3'⟩ := box_cell XT.out 0 rfl; obtain ⟨q4, q4'⟩ := box_cell XT.out 1 rfl; obtain ⟨q5, q5'⟩ := box_cell XT.out 2 rfl; obtain ⟨q6, q6'⟩ := box_cell XT.out 3 rfl) | (clear q3 q3' q4 q4' q5 q5' q6 q6'; ((with_reducible refine gate_store (p := 3) rfl ?_); go_must (refine store_box 51 3 (.tmp 18) rfl rfl rfl (g := w.heap.size + 1) (e := 51) (.agg #[.bool b5, .slice A5 n5 c5, .int .i64 x5, .bool true]) ([.bool b5, .slice A5 n5 c5, .int .i64 x5, .bool true]) rfl rfl rfl info_told ?b1 XR.out rfl ?_; (case b1 => intro q hq; simp at hq; rcases hq with rfl | rfl | rfl | rfl <;> rfl); intro wb hbx hgx; have HX := Aside0.mk hbx; have HG := Aside0.mk hgx; clear hbx hgx)); replace P5 := Aside0.mk (P5.out.grown_box XR.out (by decide) HG.out); replace BEL := Aside0.mk (BEL.out.grown HG.out (by omega)); replace X0 := Aside0.mk (blk_grown X0.out HG.out (by have h_g := HGS.out; omega)); replace XT := Aside0.mk (blk_grown XT.out HG.out (Ne.symm NE_XR_XT.out)); replace XR := HX; clear HG))
        refine bodyPost_ret (results_told rfl _ _ (w.heap.size + 1) _ rfl XR.out rfl) rfl ?_
        rw [first_some HI.out HNO.out HS5.out.symm]
        exact ⟨_, rfl, P5.out, BEL.out.1⟩
      case false =>
        clear hce hcf
        have hw : wrap64 ((i : Int) + 1) = (i : Int) + 1 := by unfold wrap64; omega
        have BELo := BEL
        go_wp2_with (replace BEL := Aside0.mk ((BEL.out.alloc (.cells #[.bool false, .slice none 0 0, .int .i64 0, .bool false] 51)).less (j := 2) (by omega)); have HN := Aside0.mk (blk_new w5 (.cells #[.bool false, .slice none 0 0, .int .i64 0, .bool false] 51)); have L_X0 := lt_blk X0.out; replace X0 := Aside0.mk (blk_alloc X0.out (.cells #[.bool false, .slice none 0 0, .int .i64 0, .bool false] 51)); have L_XR := lt_blk XR.out; replace XR := Aside0.mk (blk_alloc XR.out (.cells #[.bool false, .slice none 0 0, .int .i64 0, .bool false] 51)); replace P5 := Aside0.mk (P5.out.below (below_alloc (Below.refl _ _) (.cells #[.bool false, .slice none 0 0, .int .i64 0, .bool false] 51))); ((with_reducible refine gate_store (p := 6) rfl ?_); go_must (refine store_box 51 6 (.tmp 15) rfl rfl rfl (g := w5.heap.size) (e := 51) (.agg #[.bool b5, .slice A5 n5 c5, .int .i64 x5, .bool false]) ([.bool b5, .slice A5 n5 c5, .int .i64 x5, .bool false]) rfl rfl rfl info_told ?b1 HN.out rfl ?_; (case b1 => intro q hq; simp at hq; rcases hq with rfl | rfl | rfl | rfl <;> rfl); intro wb hbx hgx; have HX := Aside0.mk hbx; have HG := Aside0.mk hgx; clear hbx hgx)); replace P5 := Aside0.mk (P5.out.grown_box HN.out (by decide) HG.out); have LB_XT := BELo.out.2; replace BEL := Aside0.mk (BEL.out.grown HG.out (Nat.le_trans (Nat.le_add_right _ _) LB_XT)); replace X0 := Aside0.mk (blk_grown X0.out HG.out (Nat.ne_of_lt L_X0)); replace XR := Aside0.mk (blk_grown XR.out HG.out (Nat.ne_of_lt L_XR)); have NE_X0_XT := Aside0.mk (Nat.ne_of_lt L_X0); have NE_XR_XT := Aside0.mk (Nat.ne_of_lt L_XR); clear L_X0; clear L_XR; have LL_XT := Aside0.mk LB_XT; clear LB_XT; have XT := HX; clear HG HN HX; obtain ⟨q3, q3'⟩ := box_cell XT.out 0 rfl; obtain ⟨q4, q4'⟩ := box_cell XT.out 1 rfl; obtain ⟨q5, q5'⟩ := box_cell XT.out 2 rfl; obtain ⟨q6, q6'⟩ := box_cell XT.out 3 rfl)
        go_roundw
        case rel => exact ⟨i + 1, by go_num, hlt, BEL, X0, XR, ⟨fun j hj => by rcases Nat.lt_or_ge j i with h | h; exact HNO.out j h; rw [show j = i by omega]; exact isSome_false HS5.out.symm⟩⟩
        case measure => exact meas_int hlt
    · have hlt' : ¬ (i : Int) < 3 := by omega
      have hld : decide ((i : Int) < 3) = false := decide_eq_false hlt'
      have he : i = 3 := by omega
      go_wp2_with (((with_reducible refine gate_store (p := 3) rfl ?_); go_must (refine store_box 51 3 (.tmp 20) rfl rfl rfl (g := w.heap.size + 1) (e := 51) (.agg #[.bool false, .slice none 0 0, .int .i64 0, .bool false]) ([.bool false, .slice none 0 0, .int .i64 0, .bool false]) rfl rfl rfl info_told ?b1 XR.out rfl ?_; (case b1 => intro q hq; simp at hq; rcases hq with rfl | rfl | rfl | rfl <;> rfl); intro wb hbx hgx; have HX := Aside0.mk hbx; have HG := Aside0.mk hgx; clear hbx hgx)); replace BEL := Aside0.mk (BEL.out.grown HG.out (by omega)); replace X0 := Aside0.mk (blk_grown X0.out HG.out (by have h_g := HGS.out; omega)); replace XR := HX; clear HG)
      refine bodyPost_ret (results_told rfl _ _ (w.heap.size + 1) _ rfl XR.out rfl) rfl ?_
      rw [first_none (fun j hj => HNO.out j (by omega))]
      exact ⟨_, rfl, PO.none _ _, BEL.out.1⟩
end Go.Proofs.YtgpjplelgffocaaDoor

namespace Go.Proofs.YtgpjplelgffocaaDoor
open Go.RowKit Go.Proofs.YtgpjplelgffocaaDoorW.PrintWords Limb
set_option linter.unusedVariables false
set_option linter.unusedSimpArgs false

theorem one_word {m n x : Nat} (hl : (limbs m).length = n) (hx : (limbs m)[0]? = some x) (hn : n = 1) : m = x := by
  subst hn
  have h := nv_limbs m
  match hm : limbs m, hl, hx with
  | [y], _, hx =>
    rw [hm] at h
    simp at hx
    subst hx
    simp [nv] at h
    omega
theorem log2_yes {m n x : Nat} (hl : (limbs m).length = n) (hx : (limbs m)[0]? = some x) (hn : n = 1) (h1 : x = 1) : m = 1 := (one_word hl hx hn).trans h1
theorem log2_no {m n x : Nat} (hl : (limbs m).length = n) (hx : (limbs m)[0]? = some x) (hn : n = 1) (h1 : ¬ x = 1) : ¬ m = 1 := fun h => h1 ((one_word hl hx hn).symm.trans h)
theorem log2_len {m n : Nat} (hl : (limbs m).length = n) (hn : ¬ n = 1) : ¬ m = 1 := fun h => hn (by rw [← hl, h, limbs_one (by decide) (by decide)]; rfl)
theorem len1_word {w : World} {A : Option Addr} {n : Nat} {m : Nat} (hC : kU.C w A n (limbs m)) (hl : (limbs m).length = n) (hn : n = 1) : ∃ (ad : Addr) (x : Nat), A = some ad ∧ (limbs m)[0]? = some x ∧ w.cell? ad = some (.int .u64 (x : Int)) := by
  obtain ⟨ad, x, h1, h2, h3⟩ := at_word hC hl 0 (by omega)
  have hz0 : ad.add 0 = ad := by simp [Addr.add]
  rw [hz0] at h3
  exact ⟨ad, x, h1, h2, h3⟩
theorem cexp_small {t : Int} (h : t.natAbs < 2 ^ 2400) : -1074 ≤ cexp t (-1074) ∧ cexp t (-1074) ≤ 4000 := by
  by_cases h0 : t = 0
  · subst h0; rw [cexp_zero]; decide
  · obtain ⟨k, h1, _, h3⟩ := of_form (e := -1074) h0
    have h4 := tz_lt_bl (show t.natAbs ≠ 0 by omega)
    have h5 := bl_le_iff.2 h
    omega
def log2F (t : Int) : Option (Int × Int) := if cman t = 1 then some (cexp t (-1074), 0) else none
def logF (M : Int) (most : Nat) (t : Int) : Option (Int × Int) := ((List.range (most + 1)).find? (fun j => decide (t = tenI j * M))).map (fun j => ((j : Int), 0))
theorem log_some {M t : Int} {most i : Nat} (hi : i < most + 1) (h : ∀ j, j < i → ¬ t = tenI j * M) (h1 : t = tenI i * M) : logF M most t = some ((i : Int), 0) := by
  unfold logF
  rw [(List.find?_range_eq_some).2 ⟨by simpa using h1, by simpa using hi, fun j hj => by simpa using h j hj⟩]
  rfl
theorem log_none {M t : Int} {most : Nat} (h : ∀ j, j < most + 1 → ¬ t = tenI j * M) : logF M most t = none := by
  unfold logF
  rw [List.find?_eq_none.2 (fun j hj => by simpa using h j (by simpa using hj))]
  rfl

set_option maxRecDepth 100000 in
set_option maxHeartbeats 8000000 in
theorem log2_any {u : Value} {z more : Int} {most : Nat} {g1 g2 g3 : Nat} {w : World} (h : CDy w u z (-1074)) (hz : z.natAbs < 2 ^ 2098) (hm : more.natAbs < 2 ^ 20) (hmost : most ≤ 40)
    (h1 : w.heap[g1]? = some (.cells #[.int .i64 more] 2 (0, 0))) (h2 : w.heap[g2]? = some (.cells #[.int .i64 2] 3 (0, 0))) (h3 : w.heap[g3]? = some (.cells #[.int .i64 most] 3 (0, 0))) (hT : TabAt 0 Lib.deBruijn64tab w) :
    Calls Tryd.prog 82 #[u, .pointer (some ⟨g1, 0, none⟩), .pointer (some ⟨g2, 0, none⟩), .pointer (some ⟨g3, 0, none⟩)] w fun en w' => ∃ v', en = .returned v' ∧ PO w' w.heap.size v' (log2F (z + more * 2 ^ 1074)) ∧ Below w.heap.size w w' := by
  obtain ⟨b0, A, n0, c, x0, rfl⟩ := h.ex
  have HGS := Aside0.mk (And.intro (lt_blk h1) (And.intro (lt_blk h2) (lt_blk h3)))
  have HG1 := Aside0.mk h1
  have HG2 := Aside0.mk h2
  have HG3 := Aside0.mk h3
  have HT := Aside0.mk hT
  have HCD := Aside0.mk h
  have O1 := Aside0.mk (Ok.of (e := -1074) _ hz (by decide) (by decide) (by decide))
  have O2 := Aside0.mk (Ok.of (e := -1074) _ (sm_mul (k := 1074) hm) (by decide) (by decide) (by decide))
  have hts := sm_le (m := 2400) (sm_add hz (sm_le (m := 2098) (sm_mul (k := 1074) hm) (by decide))) (by decide)
  have L1 := Aside0.mk (And.intro (show -9223372036854775808 ≤ more by omega) (show more < 9223372036854775808 by omega))
  have HM := Aside0.mk hmost
  obtain ⟨M, hM⟩ : ∃ M : Int, M = 2 ^ 1074 := ⟨_, rfl⟩
  have HP := Aside0.mk (fun (n : Int) (v : Value) (b : Nat) (W : World) (h : PDy W b v n 0) => (by
    have q := PDy.scale (e := -1074) 1074 h
    rw [← hM] at q; exact q : PDy W b v (n * M) (-1074)))
  have OTN := Aside0.mk (fun (i : Nat) (hi : i ≤ 60) => (by
    have q := Ok.of (e := -1074) _ (sm_mul (k := 1074) (tenI_small hi)) (by decide) (by decide) (by decide)
    rw [← hM] at q; exact q : Ok (tenI i * M) (-1074)))
  rw [← hM] at O2 hts ⊢
  have CX := Aside0.mk (cexp_small hts)
  have OT := Aside0.mk (Ok.of (e := -1074) _ hts (by decide) (by decide) (by decide))
  obtain ⟨t, ht⟩ : ∃ t, t = z + more * M := ⟨_, rfl⟩
  have HTT := Aside0.mk ht
  rw [← ht] at CX OT ⊢
  clear h hz hm hmost hM h1 h2 h3 hT hts ht
  go_enter Tryd.func82, Tryd.ntmps82
  go_upto_region 1 with fail
  have BEL : Aside0 (BelN w 2 ((w.alloc (.cells #[.bool b0, .slice A n0 c, .int .i64 x0] 27)).alloc (.cells #[.bool false, .slice none 0 0, .int .i64 0, .bool false] 51))) := ⟨(((BelN.zero w).alloc _).alloc _).less (by decide)⟩
  have X0 : Aside0 (((w.alloc (.cells #[.bool b0, .slice A n0 c, .int .i64 x0] 27)).alloc (.cells #[.bool false, .slice none 0 0, .int .i64 0, .bool false] 51)).heap[w.heap.size]? = some (.cells #[.bool b0, .slice A n0 c, .int .i64 x0] 27 (0, 0))) := ⟨by have h := blk_new w (.cells #[.bool b0, .slice A n0 c, .int .i64 x0] 27); exact blk_alloc (h) _⟩
  have XR : Aside0 (((w.alloc (.cells #[.bool b0, .slice A n0 c, .int .i64 x0] 27)).alloc (.cells #[.bool false, .slice none 0 0, .int .i64 0, .bool false] 51)).heap[w.heap.size + 1]? = some (.cells #[.bool false, .slice none 0 0, .int .i64 0, .bool false] 51 (0, 0))) := ⟨by have h := blk_new (w.alloc (.cells #[.bool b0, .slice A n0 c, .int .i64 x0] 27)) (.cells #[.bool false, .slice none 0 0, .int .i64 0, .bool false] 51); rw [size_alloc'] at h; exact h⟩
  have G1 := Aside0.mk (blk_alloc (blk_alloc HG1.out (.cells #[.bool b0, .slice A n0 c, .int .i64 x0] 27)) (.cells #[.bool false, .slice none 0 0, .int .i64 0, .bool false] 51))
  have G2 := Aside0.mk (blk_alloc (blk_alloc HG2.out (.cells #[.bool b0, .slice A n0 c, .int .i64 x0] 27)) (.cells #[.bool false, .slice none 0 0, .int .i64 0, .bool false] 51))
  have G3 := Aside0.mk (blk_alloc (blk_alloc HG3.out (.cells #[.bool b0, .slice A n0 c, .int .i64 x0] 27)) (.cells #[.bool false, .slice none 0 0, .int .i64 0, .bool false] 51))
  obtain ⟨GM, hGM⟩ : ∃ G : (Nat → Prop) → (Nat → Value) → World → Prop, G = fun L v W => BelN w 2 W ∧ W.heap[w.heap.size]? = some (.cells #[.bool b0, .slice A n0 c, .int .i64 x0] 27 (0, 0)) ∧ W.heap[w.heap.size + 1]? = some (.cells #[.bool false, .slice none 0 0, .int .i64 0, .bool false] 51 (0, 0)) ∧ W.heap[g1]? = some (.cells #[.int .i64 more] 2 (0, 0)) ∧ W.heap[g2]? = some (.cells #[.int .i64 2] 3 (0, 0)) ∧ W.heap[g3]? = some (.cells #[.int .i64 most] 3 (0, 0)) ∧ (L 0 → (v 0) = .agg #[.bool b0, .slice A n0 c, .int .i64 x0]) ∧ (L 1 → (v 1) = .int .i64 more) ∧ (L 2 → PDy W w.heap.size (v 2) (more * M) (-1074)) ∧ (L 3 → PDy W w.heap.size (v 3) t (-1074)) ∧ (L 4 → ∃ g : Nat, (v 4) = .pointer (some ⟨g, 0, none⟩) ∧ w.heap.size + 2 ≤ g ∧ (¬ L 5 → W.heap[g]? = some (.cells #[.bool false, .slice none 0 0, .int .i64 0] 27 (0, 0))) ∧ (L 5 → ∃ (bb : Bool) (A : Option Addr) (n c : Nat) (x : Int), (v 3) = .agg #[.bool bb, .slice A n c, .int .i64 x] ∧ W.heap[g]? = some (.cells #[.bool bb, .slice A n c, .int .i64 x] 27 (0, 0)))) ∧ True := ⟨_, rfl⟩
  refine wp_region_slotsV [8, 9, 10, 11, 6] (by kernel_rfl) (by kernel_rfl) (G := GM) ?h0M ?hstepM ?hendM
  case h0M =>
    intro v; rw [hGM]
    exact ⟨BEL.out.next (below_drew (Below.refl _ _)), blk_drew X0.out, blk_drew XR.out, blk_drew G1.out, blk_drew G2.out, blk_drew G3.out, fun h => h.elim, fun h => h.elim, fun h => h.elim, fun h => h.elim, fun h => h.elim, trivial⟩
  case hstepM =>
    intro k o ho v W L hGv hnk haft hcl K hK
    rw [hGM] at hGv
    obtain ⟨hB, hb0, hb1, hb2, hb3, hb4, f0, f1, f2, f3, f4, f5⟩ := hGv
    rcases k with _ | _ | _ | _ | _ | _ | k
    all_goals first
      | (cases ho; done)
      | (obtain rfl := (Option.some.inj ho).symm
         clear ho
         rw [if_pos (by rfl)]
         simp only [setAll, List.setIfInBounds_toArray, List.set_cons_zero, List.set_cons_succ, List.set_nil, List.getElem_toArray, List.getElem_cons_zero, List.getElem_cons_succ, Nat.reduceAdd] at haft hK ⊢)
    case zero =>
      have cc0 := (box_cell (v := .bool b0) hb0 0 rfl).1
      have cc1 := (box_cell (v := .slice A n0 c) hb0 1 rfl).1
      have cc2 := (box_cell (v := .int .i64 x0) hb0 2 rfl).1
      have hb := Below.refl W.heap.size W
      have key := hK.out (.agg #[.bool b0, .slice A n0 c, .int .i64 x0]) W (by rw [hGM]; exact ⟨hB.next hb, blk_below hb0 hb, blk_below hb1 hb, blk_below hb2 hb, blk_below hb3 hb, blk_below hb4 hb, fun _ => by rw [upd_eq], (kv f1 (by decide)), (kd f2 (by decide) hb), (kd f3 (by decide) hb), (fun h => by obtain ⟨g, e1, e2, e3, e4⟩ := f4 (h.resolve_right (by decide)); rw [upd_ne v _ (by decide), upd_ne v _ (by decide)]; exact ⟨g, e1, e2, fun h2 => blk_below (e3 (fun h3 => h2 (.inl h3))) hb, fun h2 => by obtain ⟨bb, A, n, c, x, y1, y2⟩ := e4 (h2.resolve_right (by decide)); exact ⟨bb, A, n, c, x, y1, blk_below y2 hb⟩⟩), trivial⟩)
      clear hb0 hb1 hb2 hb3 hb4 f0 f1 f2 f3 f4 f5 hb hK
      go_simp
      simpa [upd] using key
    case succ.zero =>
      have cc0 := (box_cell (v := .int .i64 more) hb2 0 rfl).1
      have hb := Below.refl W.heap.size W
      have key := hK.out (.int .i64 more) W (by rw [hGM]; exact ⟨hB.next hb, blk_below hb0 hb, blk_below hb1 hb, blk_below hb2 hb, blk_below hb3 hb, blk_below hb4 hb, (kv f0 (by decide)), fun _ => by rw [upd_eq], (kd f2 (by decide) hb), (kd f3 (by decide) hb), (fun h => by obtain ⟨g, e1, e2, e3, e4⟩ := f4 (h.resolve_right (by decide)); rw [upd_ne v _ (by decide), upd_ne v _ (by decide)]; exact ⟨g, e1, e2, fun h2 => blk_below (e3 (fun h3 => h2 (.inl h3))) hb, fun h2 => by obtain ⟨bb, A, n, c, x, y1, y2⟩ := e4 (h2.resolve_right (by decide)); exact ⟨bb, A, n, c, x, y1, blk_below y2 hb⟩⟩), trivial⟩)
      clear hb0 hb1 hb2 hb3 hb4 f0 f1 f2 f3 f4 f5 hb hK
      go_simp
      simpa [upd] using key
    case succ.succ.zero =>
      have d1 := f1 (haft { on := 1, ground := .data } (by simp) rfl)
      have D1 := d1
      have HALL := Aside0.mk (And.intro hK (And.intro hB (And.intro hb0 ( And.intro hb1 ( And.intro hb2 ( And.intro hb3 ( And.intro hb4 ( And.intro f0 ( And.intro f1 ( And.intro f2 ( And.intro f3 ( And.intro f4 ( And.intro f5 (True.intro))))))))))))))
      clear hK hb0 hb1 hb2 hb3 hb4 f0 f1 f2 f3 f4 f5
      go_simp
      go_at_call 68
      refine (pint_dy more _ L1.out.1 L1.out.2 (tab_below HT.out hB.1)).mono ?_
      rintro en w4 ⟨v1, rfl, hr, hb⟩
      obtain ⟨hK, hB, hb0, hb1, hb2, hb3, hb4, f0, f1, f2, f3, f4, f5, _⟩ := HALL.out
      have key := hK.out (v1) w4 (by rw [hGM]; exact ⟨hB.next hb, blk_below hb0 hb, blk_below hb1 hb, blk_below hb2 hb, blk_below hb3 hb, blk_below hb4 hb, (kv f0 (by decide)), (kv f1 (by decide)), fun _ => by rw [upd_eq]; exact (HP.out _ _ _ _ hr).lower (Nat.le_trans (Nat.le_add_right _ _) hB.2), (kd f3 (by decide) hb), (fun h => by obtain ⟨g, e1, e2, e3, e4⟩ := f4 (h.resolve_right (by decide)); rw [upd_ne v _ (by decide), upd_ne v _ (by decide)]; exact ⟨g, e1, e2, fun h2 => blk_below (e3 (fun h3 => h2 (.inl h3))) hb, fun h2 => by obtain ⟨bb, A, n, c, x, y1, y2⟩ := e4 (h2.resolve_right (by decide)); exact ⟨bb, A, n, c, x, y1, blk_below y2 hb⟩⟩), trivial⟩)
      clear hb0 hb1 hb2 hb3 hb4 f0 f1 f2 f3 f4 f5 hK HALL
      simpa [upd, D1] using key
    case succ.succ.succ.zero =>
      have hns5 : ¬ L 5 := fun hs => hnk (hcl 5 _ rfl hs { on := 3, ground := .data } (by simp) rfl)
      have d0 := f0 (haft { on := 0, ground := .data } (by simp) rfl)
      have D0 := d0
      have d2 := f2 (haft { on := 2, ground := .data } (by simp) rfl)
      have D2 := d2
      have HALL := Aside0.mk (And.intro hK (And.intro hB (And.intro hb0 ( And.intro hb1 ( And.intro hb2 ( And.intro hb3 ( And.intro hb4 ( And.intro f0 ( And.intro f1 ( And.intro f2 ( And.intro f3 ( And.intro f4 ( And.intro f5 (True.intro))))))))))))))
      clear hK hb0 hb1 hb2 hb3 hb4 f0 f1 f2 f3 f4 f5
      go_simp
      go_at_call 83
      refine (add_ok (HCD.out.below hB.1) d2.c O1.out O2.out (tab_below HT.out hB.1)).mono ?_
      rintro en w4 ⟨v1, rfl, hr, hb⟩
      obtain ⟨hK, hB, hb0, hb1, hb2, hb3, hb4, f0, f1, f2, f3, f4, f5, _⟩ := HALL.out
      have key := hK.out (v1) w4 (by rw [hGM]; exact ⟨hB.next hb, blk_below hb0 hb, blk_below hb1 hb, blk_below hb2 hb, blk_below hb3 hb, blk_below hb4 hb, (kv f0 (by decide)), (kv f1 (by decide)), (kd f2 (by decide) hb), fun _ => by rw [upd_eq]; exact (by rw [HTT.out]; exact hr.lower (Nat.le_trans (Nat.le_add_right _ _) hB.2)), (fun h => by obtain ⟨g, e1, e2, e3, e4⟩ := f4 (h.resolve_right (by decide)); rw [upd_ne v _ (by decide)]; exact ⟨g, e1, e2, fun h2 => blk_below (e3 (fun h3 => h2 (.inl h3))) hb, fun h2 => (hns5 (h2.resolve_right (by decide))).elim⟩), trivial⟩)
      clear hb0 hb1 hb2 hb3 hb4 f0 f1 f2 f3 f4 f5 hK HALL
      simpa [upd, D0] using key
    case succ.succ.succ.succ.zero =>
      have hns5 : ¬ L 5 := fun hs => hnk (hcl 5 _ rfl hs { on := 4, ground := .data } (by simp) rfl)
      have hb := below_alloc (Below.refl W.heap.size W) (.cells #[.bool false, .slice none 0 0, .int .i64 0] 27)
      have key := hK.out (.pointer (some ⟨W.heap.size, 0, none⟩)) (W.alloc (.cells #[.bool false, .slice none 0 0, .int .i64 0] 27)) (by rw [hGM]; exact ⟨hB.next hb, blk_below hb0 hb, blk_below hb1 hb, blk_below hb2 hb, blk_below hb3 hb, blk_below hb4 hb, (kv f0 (by decide)), (kv f1 (by decide)), (kd f2 (by decide) hb), (kd f3 (by decide) hb), fun _ => by rw [upd_eq]; exact ⟨W.heap.size, rfl, hB.2, fun _ => blk_new W _, fun h2 => (hns5 (h2.resolve_right (by decide))).elim⟩, trivial⟩)
      clear hb0 hb1 hb2 hb3 hb4 f0 f1 f2 f3 f4 f5 hK hb hns5
      go_simp
      simpa [upd] using key
    case succ.succ.succ.succ.succ.zero =>
      have h_g := HGS.out
      obtain ⟨g, e1, e2, e3, -⟩ := f4 (haft { on := 4, ground := .data } (by simp) rfl)
      have hgb := e3 hnk
      have ds := f3 (haft { on := 3, ground := .data } (by simp) rfl)
      obtain ⟨bb, A, n, c, x, es⟩ := ds.ex
      refine wp_store_box 27 6 (.tmp 11) rfl rfl (g := g) (e := 27) (v 3) [.bool bb, .slice A n c, .int .i64 x] (by first | rfl | exact e1) rfl (by rw [es]; rfl) info_dyad ?_ hgb rfl ?_
      · intro q hq; simp at hq; rcases hq with rfl | rfl | rfl <;> rfl
      · intro w1 hw1 hg
        have key := hK.out undef w1 (by rw [hGM]; exact ⟨hB.grown hg (by omega), blk_grown hb0 hg (by omega), blk_grown hb1 hg (by omega), blk_grown hb2 hg (by omega), blk_grown hb3 hg (by omega), blk_grown hb4 hg (by omega), (kv f0 (by decide)), (kv f1 (by decide)), (kg f2 (by decide) hgb (by decide) hg), (kg f3 (by decide) hgb (by decide) hg), (fun h => by rw [upd_ne v _ (by decide), upd_ne v _ (by decide)]; exact ⟨g, e1, e2, fun h2 => (h2 (.inr rfl)).elim, fun _ => ⟨bb, A, n, c, x, es, hw1⟩⟩), trivial⟩)
        clear hb0 hb1 hb2 hb3 hb4 f0 f1 f2 f3 f4 f5 hK
        simpa [upd] using key
  case hendM =>
    intro v W L0 hall hGv
    rw [hGM] at hGv
    obtain ⟨hB, hb0, hb1, hb2, hb3, hb4, f0, f1, f2, f3, f4, _⟩ := hGv
    have d3 := f3 (hall 3 (by decide))
    obtain ⟨g, p4, hgs, _, hg5⟩ := f4 (hall 4 (by decide))
    obtain ⟨b9, A9, n9, c9, x9, p9, hx9⟩ := hg5 (hall 5 (by decide))
    rw [p9] at d3
    replace BEL := Aside0.mk hB
    replace XR := Aside0.mk hb1
    replace G2 := Aside0.mk hb3
    replace G3 := Aside0.mk hb4
    have XT := Aside0.mk hx9
    have P9 := Aside0.mk d3
    have h_q := HGS.out
    have HGN := Aside0.mk (And.intro hgs h_q)
    clear hall f0 f1 f2 f3 f4 hB hb0 hb1 hb2 hb3 hb4 d3 hx9 hg5 h_q hgs X0 G1
    simp only [setAll, List.setIfInBounds_toArray, List.set_cons_zero, List.set_cons_succ, Nat.reduceAdd, p4, p9]
    obtain ⟨-, ex9, hC9, hl9, -⟩ := CDy.parts P9.out.c
    have HX9 := Aside0.mk ex9
    have HL9 := Aside0.mk hl9
    have HC9 := Aside0.mk hC9
    clear ex9 hl9 hC9
    by_cases hn : n9 = 1
    case neg =>
      have hnd : ((n9 : Int) == 1) = false := by simp; omega
      have HN9 := Aside0.mk hn
      clear hn
      obtain ⟨q0, q0'⟩ := box_cell G2.out 0 rfl
      obtain ⟨q1, q1'⟩ := box_cell XT.out 0 rfl
      obtain ⟨q2, q2'⟩ := box_cell XT.out 1 rfl
      obtain ⟨q3, q3'⟩ := box_cell XT.out 2 rfl
      go_wp2_with (clear q0 q0' q1 q1' q2 q2' q3 q3'; ((with_reducible refine gate_store (p := 5) rfl ?_); go_must (refine store_box 51 5 (.tmp 28) rfl rfl rfl (g := w.heap.size + 1) (e := 51) (.agg #[.bool false, .slice none 0 0, .int .i64 0, .bool false]) ([.bool false, .slice none 0 0, .int .i64 0, .bool false]) rfl rfl rfl info_told ?b1 XR.out rfl ?_; (case b1 => intro q hq; simp at hq; rcases hq with rfl | rfl | rfl | rfl <;> rfl); intro wb hbx hgx; have HX := Aside0.mk hbx; have HG := Aside0.mk hgx; clear hbx hgx)); replace P9 := Aside0.mk (P9.out.grown_box XR.out (by decide) HG.out); replace BEL := Aside0.mk (BEL.out.grown HG.out (by omega)); replace G2 := Aside0.mk (blk_grown G2.out HG.out (by have h_g := HGN.out; omega)); replace G3 := Aside0.mk (blk_grown G3.out HG.out (by have h_g := HGN.out; omega)); replace XT := Aside0.mk (blk_grown XT.out HG.out (by have h_g := HGN.out; omega)); replace XR := HX; clear HG)
      refine bodyPost_ret (results_told rfl _ _ (w.heap.size + 1) _ rfl XR.out rfl) rfl ?_
      rw [show log2F t = none from if_neg (log2_len HL9.out HN9.out)]
      exact ⟨_, rfl, PO.none _ _, BEL.out.1⟩
    case pos =>
      obtain ⟨ad, x, rfl, hx0, hcell⟩ := len1_word HC9.out HL9.out hn
      have HN9 := Aside0.mk hn
      have HX0 := Aside0.mk hx0
      subst hn
      clear hx0
      by_cases hx : x = 1
      case pos =>
        have hxd : ((x : Int) == 1) = true := by simp; omega
        have HXX := Aside0.mk hx
        clear hx
        obtain ⟨q0, q0'⟩ := box_cell G2.out 0 rfl
        obtain ⟨q1, q1'⟩ := box_cell XT.out 0 rfl
        obtain ⟨q2, q2'⟩ := box_cell XT.out 1 rfl
        obtain ⟨q3, q3'⟩ := box_cell XT.out 2 rfl
        go_wp2_with fail
        have BLW := BEL
        clear q0 q0' q1 q1' q2 q2' q3 q3'
        go_at_call 46
        refine (whole_any x9 _ (by have := CX.out; rw [← HX9.out] at this; omega) (by have := CX.out; rw [← HX9.out] at this; omega) (tab_below HT.out BEL.out.1)).mono ?_
        rintro en10 w10 ⟨v10, rfl, hr, hb⟩
        replace BEL := Aside0.mk (BEL.out.next hb)
        replace XR := Aside0.mk (blk_below XR.out hb)
        replace G2 := Aside0.mk (blk_below G2.out hb)
        replace G3 := Aside0.mk (blk_below G3.out hb)
        replace XT := Aside0.mk (blk_below XT.out hb)
        replace P9 := Aside0.mk (P9.out.below hb)
        have P3 := Aside0.mk hr
        obtain ⟨b10, A10, n10, c10, x10, rfl⟩ := hr.ex5
        clear hr hb
        go_wp2_with (((with_reducible refine gate_store (p := 5) rfl ?_); go_must (refine store_box 51 5 (.tmp 27) rfl rfl rfl (g := w.heap.size + 1) (e := 51) (.agg #[.bool b10, .slice A10 n10 c10, .int .i64 x10, .bool true]) ([.bool b10, .slice A10 n10 c10, .int .i64 x10, .bool true]) rfl rfl rfl info_told ?b1 XR.out rfl ?_; (case b1 => intro q hq; simp at hq; rcases hq with rfl | rfl | rfl | rfl <;> rfl); intro wb hbx hgx; have HX := Aside0.mk hbx; have HG := Aside0.mk hgx; clear hbx hgx)); replace P9 := Aside0.mk (P9.out.grown_box XR.out (by decide) HG.out); replace P3 := Aside0.mk (P3.out.grown_box XR.out (by decide) HG.out); replace BEL := Aside0.mk (BEL.out.grown HG.out (by omega)); replace G2 := Aside0.mk (blk_grown G2.out HG.out (by have h_g := HGN.out; omega)); replace G3 := Aside0.mk (blk_grown G3.out HG.out (by have h_g := HGN.out; omega)); replace XT := Aside0.mk (blk_grown XT.out HG.out (by have h_g := HGN.out; omega)); replace XR := HX; clear HG)
        refine bodyPost_ret (results_told rfl _ _ (w.heap.size + 1) _ rfl XR.out rfl) rfl ?_
        rw [show log2F t = some (x9, 0) from by unfold log2F; rw [if_pos (log2_yes HL9.out HX0.out rfl HXX.out), HX9.out]]
        exact ⟨_, rfl, P3.out.some.lower (Nat.le_trans (Nat.le_add_right _ _) BLW.out.2), BEL.out.1⟩
      case neg =>
        have hxd : ((x : Int) == 1) = false := by simp; omega
        have HXX := Aside0.mk hx
        clear hx
        obtain ⟨q0, q0'⟩ := box_cell G2.out 0 rfl
        obtain ⟨q1, q1'⟩ := box_cell XT.out 0 rfl
        obtain ⟨q2, q2'⟩ := box_cell XT.out 1 rfl
        obtain ⟨q3, q3'⟩ := box_cell XT.out 2 rfl
        go_wp2_with (clear q0 q0' q1 q1' q2 q2' q3 q3'; ((with_reducible refine gate_store (p := 5) rfl ?_); go_must (refine store_box 51 5 (.tmp 28) rfl rfl rfl (g := w.heap.size + 1) (e := 51) (.agg #[.bool false, .slice none 0 0, .int .i64 0, .bool false]) ([.bool false, .slice none 0 0, .int .i64 0, .bool false]) rfl rfl rfl info_told ?b1 XR.out rfl ?_; (case b1 => intro q hq; simp at hq; rcases hq with rfl | rfl | rfl | rfl <;> rfl); intro wb hbx hgx; have HX := Aside0.mk hbx; have HG := Aside0.mk hgx; clear hbx hgx)); replace P9 := Aside0.mk (P9.out.grown_box XR.out (by decide) HG.out); replace BEL := Aside0.mk (BEL.out.grown HG.out (by omega)); replace G2 := Aside0.mk (blk_grown G2.out HG.out (by have h_g := HGN.out; omega)); replace G3 := Aside0.mk (blk_grown G3.out HG.out (by have h_g := HGN.out; omega)); replace XT := Aside0.mk (blk_grown XT.out HG.out (by have h_g := HGN.out; omega)); replace XR := HX; clear HG)
        refine bodyPost_ret (results_told rfl _ _ (w.heap.size + 1) _ rfl XR.out rfl) rfl ?_
        rw [show log2F t = none from if_neg (log2_no HL9.out HX0.out rfl HXX.out)]
        exact ⟨_, rfl, PO.none _ _, BEL.out.1⟩

set_option maxRecDepth 100000 in
set_option maxHeartbeats 8000000 in
theorem log10_any {u : Value} {z more : Int} {most : Nat} {g1 g2 g3 : Nat} {w : World} (h : CDy w u z (-1074)) (hz : z.natAbs < 2 ^ 2098) (hm : more.natAbs < 2 ^ 20) (hmost : most ≤ 40)
    (h1 : w.heap[g1]? = some (.cells #[.int .i64 more] 2 (0, 0))) (h2 : w.heap[g2]? = some (.cells #[.int .i64 10] 3 (0, 0))) (h3 : w.heap[g3]? = some (.cells #[.int .i64 most] 3 (0, 0))) (hT : TabAt 0 Lib.deBruijn64tab w) :
    Calls Tryd.prog 82 #[u, .pointer (some ⟨g1, 0, none⟩), .pointer (some ⟨g2, 0, none⟩), .pointer (some ⟨g3, 0, none⟩)] w fun en w' => ∃ v', en = .returned v' ∧ PO w' w.heap.size v' (logF (2 ^ 1074) most (z + more * 2 ^ 1074)) ∧ Below w.heap.size w w' := by
  obtain ⟨b0, A, n0, c, x0, rfl⟩ := h.ex
  have HGS := Aside0.mk (And.intro (lt_blk h1) (And.intro (lt_blk h2) (lt_blk h3)))
  have HG1 := Aside0.mk h1
  have HG2 := Aside0.mk h2
  have HG3 := Aside0.mk h3
  have HT := Aside0.mk hT
  have HCD := Aside0.mk h
  have O1 := Aside0.mk (Ok.of (e := -1074) _ hz (by decide) (by decide) (by decide))
  have O2 := Aside0.mk (Ok.of (e := -1074) _ (sm_mul (k := 1074) hm) (by decide) (by decide) (by decide))
  have hts := sm_le (m := 2400) (sm_add hz (sm_le (m := 2098) (sm_mul (k := 1074) hm) (by decide))) (by decide)
  have L1 := Aside0.mk (And.intro (show -9223372036854775808 ≤ more by omega) (show more < 9223372036854775808 by omega))
  have HM := Aside0.mk hmost
  obtain ⟨M, hM⟩ : ∃ M : Int, M = 2 ^ 1074 := ⟨_, rfl⟩
  have HP := Aside0.mk (fun (n : Int) (v : Value) (b : Nat) (W : World) (h : PDy W b v n 0) => (by
    have q := PDy.scale (e := -1074) 1074 h
    rw [← hM] at q; exact q : PDy W b v (n * M) (-1074)))
  have OTN := Aside0.mk (fun (i : Nat) (hi : i ≤ 60) => (by
    have q := Ok.of (e := -1074) _ (sm_mul (k := 1074) (tenI_small hi)) (by decide) (by decide) (by decide)
    rw [← hM] at q; exact q : Ok (tenI i * M) (-1074)))
  rw [← hM] at O2 hts ⊢
  have CX := Aside0.mk (cexp_small hts)
  have OT := Aside0.mk (Ok.of (e := -1074) _ hts (by decide) (by decide) (by decide))
  obtain ⟨t, ht⟩ : ∃ t, t = z + more * M := ⟨_, rfl⟩
  have HTT := Aside0.mk ht
  rw [← ht] at CX OT ⊢
  clear h hz hm hmost hM h1 h2 h3 hT hts ht
  go_enter Tryd.func82, Tryd.ntmps82
  go_upto_region 1 with fail
  have BEL : Aside0 (BelN w 2 ((w.alloc (.cells #[.bool b0, .slice A n0 c, .int .i64 x0] 27)).alloc (.cells #[.bool false, .slice none 0 0, .int .i64 0, .bool false] 51))) := ⟨(((BelN.zero w).alloc _).alloc _).less (by decide)⟩
  have X0 : Aside0 (((w.alloc (.cells #[.bool b0, .slice A n0 c, .int .i64 x0] 27)).alloc (.cells #[.bool false, .slice none 0 0, .int .i64 0, .bool false] 51)).heap[w.heap.size]? = some (.cells #[.bool b0, .slice A n0 c, .int .i64 x0] 27 (0, 0))) := ⟨by have h := blk_new w (.cells #[.bool b0, .slice A n0 c, .int .i64 x0] 27); exact blk_alloc (h) _⟩
  have XR : Aside0 (((w.alloc (.cells #[.bool b0, .slice A n0 c, .int .i64 x0] 27)).alloc (.cells #[.bool false, .slice none 0 0, .int .i64 0, .bool false] 51)).heap[w.heap.size + 1]? = some (.cells #[.bool false, .slice none 0 0, .int .i64 0, .bool false] 51 (0, 0))) := ⟨by have h := blk_new (w.alloc (.cells #[.bool b0, .slice A n0 c, .int .i64 x0] 27)) (.cells #[.bool false, .slice none 0 0, .int .i64 0, .bool false] 51); rw [size_alloc'] at h; exact h⟩
  have G1 := Aside0.mk (blk_alloc (blk_alloc HG1.out (.cells #[.bool b0, .slice A n0 c, .int .i64 x0] 27)) (.cells #[.bool false, .slice none 0 0, .int .i64 0, .bool false] 51))
  have G2 := Aside0.mk (blk_alloc (blk_alloc HG2.out (.cells #[.bool b0, .slice A n0 c, .int .i64 x0] 27)) (.cells #[.bool false, .slice none 0 0, .int .i64 0, .bool false] 51))
  have G3 := Aside0.mk (blk_alloc (blk_alloc HG3.out (.cells #[.bool b0, .slice A n0 c, .int .i64 x0] 27)) (.cells #[.bool false, .slice none 0 0, .int .i64 0, .bool false] 51))
  obtain ⟨GM, hGM⟩ : ∃ G : (Nat → Prop) → (Nat → Value) → World → Prop, G = fun L v W => BelN w 2 W ∧ W.heap[w.heap.size]? = some (.cells #[.bool b0, .slice A n0 c, .int .i64 x0] 27 (0, 0)) ∧ W.heap[w.heap.size + 1]? = some (.cells #[.bool false, .slice none 0 0, .int .i64 0, .bool false] 51 (0, 0)) ∧ W.heap[g1]? = some (.cells #[.int .i64 more] 2 (0, 0)) ∧ W.heap[g2]? = some (.cells #[.int .i64 10] 3 (0, 0)) ∧ W.heap[g3]? = some (.cells #[.int .i64 most] 3 (0, 0)) ∧ (L 0 → (v 0) = .agg #[.bool b0, .slice A n0 c, .int .i64 x0]) ∧ (L 1 → (v 1) = .int .i64 more) ∧ (L 2 → PDy W w.heap.size (v 2) (more * M) (-1074)) ∧ (L 3 → PDy W w.heap.size (v 3) t (-1074)) ∧ (L 4 → ∃ g : Nat, (v 4) = .pointer (some ⟨g, 0, none⟩) ∧ w.heap.size + 2 ≤ g ∧ (¬ L 5 → W.heap[g]? = some (.cells #[.bool false, .slice none 0 0, .int .i64 0] 27 (0, 0))) ∧ (L 5 → ∃ (bb : Bool) (A : Option Addr) (n c : Nat) (x : Int), (v 3) = .agg #[.bool bb, .slice A n c, .int .i64 x] ∧ W.heap[g]? = some (.cells #[.bool bb, .slice A n c, .int .i64 x] 27 (0, 0)))) ∧ True := ⟨_, rfl⟩
  refine wp_region_slotsV [8, 9, 10, 11, 6] (by kernel_rfl) (by kernel_rfl) (G := GM) ?h0M ?hstepM ?hendM
  case h0M =>
    intro v; rw [hGM]
    exact ⟨BEL.out.next (below_drew (Below.refl _ _)), blk_drew X0.out, blk_drew XR.out, blk_drew G1.out, blk_drew G2.out, blk_drew G3.out, fun h => h.elim, fun h => h.elim, fun h => h.elim, fun h => h.elim, fun h => h.elim, trivial⟩
  case hstepM =>
    intro k o ho v W L hGv hnk haft hcl K hK
    rw [hGM] at hGv
    obtain ⟨hB, hb0, hb1, hb2, hb3, hb4, f0, f1, f2, f3, f4, f5⟩ := hGv
    rcases k with _ | _ | _ | _ | _ | _ | k
    all_goals first
      | (cases ho; done)
      | (obtain rfl := (Option.some.inj ho).symm
         clear ho
         rw [if_pos (by rfl)]
         simp only [setAll, List.setIfInBounds_toArray, List.set_cons_zero, List.set_cons_succ, List.set_nil, List.getElem_toArray, List.getElem_cons_zero, List.getElem_cons_succ, Nat.reduceAdd] at haft hK ⊢)
    case zero =>
      have cc0 := (box_cell (v := .bool b0) hb0 0 rfl).1
      have cc1 := (box_cell (v := .slice A n0 c) hb0 1 rfl).1
      have cc2 := (box_cell (v := .int .i64 x0) hb0 2 rfl).1
      have hb := Below.refl W.heap.size W
      have key := hK.out (.agg #[.bool b0, .slice A n0 c, .int .i64 x0]) W (by rw [hGM]; exact ⟨hB.next hb, blk_below hb0 hb, blk_below hb1 hb, blk_below hb2 hb, blk_below hb3 hb, blk_below hb4 hb, fun _ => by rw [upd_eq], (kv f1 (by decide)), (kd f2 (by decide) hb), (kd f3 (by decide) hb), (fun h => by obtain ⟨g, e1, e2, e3, e4⟩ := f4 (h.resolve_right (by decide)); rw [upd_ne v _ (by decide), upd_ne v _ (by decide)]; exact ⟨g, e1, e2, fun h2 => blk_below (e3 (fun h3 => h2 (.inl h3))) hb, fun h2 => by obtain ⟨bb, A, n, c, x, y1, y2⟩ := e4 (h2.resolve_right (by decide)); exact ⟨bb, A, n, c, x, y1, blk_below y2 hb⟩⟩), trivial⟩)
      clear hb0 hb1 hb2 hb3 hb4 f0 f1 f2 f3 f4 f5 hb hK
      go_simp
      simpa [upd] using key
    case succ.zero =>
      have cc0 := (box_cell (v := .int .i64 more) hb2 0 rfl).1
      have hb := Below.refl W.heap.size W
      have key := hK.out (.int .i64 more) W (by rw [hGM]; exact ⟨hB.next hb, blk_below hb0 hb, blk_below hb1 hb, blk_below hb2 hb, blk_below hb3 hb, blk_below hb4 hb, (kv f0 (by decide)), fun _ => by rw [upd_eq], (kd f2 (by decide) hb), (kd f3 (by decide) hb), (fun h => by obtain ⟨g, e1, e2, e3, e4⟩ := f4 (h.resolve_right (by decide)); rw [upd_ne v _ (by decide), upd_ne v _ (by decide)]; exact ⟨g, e1, e2, fun h2 => blk_below (e3 (fun h3 => h2 (.inl h3))) hb, fun h2 => by obtain ⟨bb, A, n, c, x, y1, y2⟩ := e4 (h2.resolve_right (by decide)); exact ⟨bb, A, n, c, x, y1, blk_below y2 hb⟩⟩), trivial⟩)
      clear hb0 hb1 hb2 hb3 hb4 f0 f1 f2 f3 f4 f5 hb hK
      go_simp
      simpa [upd] using key
    case succ.succ.zero =>
      have d1 := f1 (haft { on := 1, ground := .data } (by simp) rfl)
      have D1 := d1
      have HALL := Aside0.mk (And.intro hK (And.intro hB (And.intro hb0 ( And.intro hb1 ( And.intro hb2 ( And.intro hb3 ( And.intro hb4 ( And.intro f0 ( And.intro f1 ( And.intro f2 ( And.intro f3 ( And.intro f4 ( And.intro f5 (True.intro))))))))))))))
      clear hK hb0 hb1 hb2 hb3 hb4 f0 f1 f2 f3 f4 f5
      go_simp
      go_at_call 68
      refine (pint_dy more _ L1.out.1 L1.out.2 (tab_below HT.out hB.1)).mono ?_
      rintro en w4 ⟨v1, rfl, hr, hb⟩
      obtain ⟨hK, hB, hb0, hb1, hb2, hb3, hb4, f0, f1, f2, f3, f4, f5, _⟩ := HALL.out
      have key := hK.out (v1) w4 (by rw [hGM]; exact ⟨hB.next hb, blk_below hb0 hb, blk_below hb1 hb, blk_below hb2 hb, blk_below hb3 hb, blk_below hb4 hb, (kv f0 (by decide)), (kv f1 (by decide)), fun _ => by rw [upd_eq]; exact (HP.out _ _ _ _ hr).lower (Nat.le_trans (Nat.le_add_right _ _) hB.2), (kd f3 (by decide) hb), (fun h => by obtain ⟨g, e1, e2, e3, e4⟩ := f4 (h.resolve_right (by decide)); rw [upd_ne v _ (by decide), upd_ne v _ (by decide)]; exact ⟨g, e1, e2, fun h2 => blk_below (e3 (fun h3 => h2 (.inl h3))) hb, fun h2 => by obtain ⟨bb, A, n, c, x, y1, y2⟩ := e4 (h2.resolve_right (by decide)); exact ⟨bb, A, n, c, x, y1, blk_below y2 hb⟩⟩), trivial⟩)
      clear hb0 hb1 hb2 hb3 hb4 f0 f1 f2 f3 f4 f5 hK HALL
      simpa [upd, D1] using key
    case succ.succ.succ.zero =>
      have hns5 : ¬ L 5 := fun hs => hnk (hcl 5 _ rfl hs { on := 3, ground := .data } (by simp) rfl)
      have d0 := f0 (haft { on := 0, ground := .data } (by simp) rfl)
      have D0 := d0
      have d2 := f2 (haft { on := 2, ground := .data } (by simp) rfl)
      have D2 := d2
      have HALL := Aside0.mk (And.intro hK (And.intro hB (And.intro hb0 ( And.intro hb1 ( And.intro hb2 ( And.intro hb3 ( And.intro hb4 ( And.intro f0 ( And.intro f1 ( And.intro f2 ( And.intro f3 ( And.intro f4 ( And.intro f5 (True.intro))))))))))))))
      clear hK hb0 hb1 hb2 hb3 hb4 f0 f1 f2 f3 f4 f5
      go_simp
      go_at_call 83
      refine (add_ok (HCD.out.below hB.1) d2.c O1.out O2.out (tab_below HT.out hB.1)).mono ?_
      rintro en w4 ⟨v1, rfl, hr, hb⟩
      obtain ⟨hK, hB, hb0, hb1, hb2, hb3, hb4, f0, f1, f2, f3, f4, f5, _⟩ := HALL.out
      have key := hK.out (v1) w4 (by rw [hGM]; exact ⟨hB.next hb, blk_below hb0 hb, blk_below hb1 hb, blk_below hb2 hb, blk_below hb3 hb, blk_below hb4 hb, (kv f0 (by decide)), (kv f1 (by decide)), (kd f2 (by decide) hb), fun _ => by rw [upd_eq]; exact (by rw [HTT.out]; exact hr.lower (Nat.le_trans (Nat.le_add_right _ _) hB.2)), (fun h => by obtain ⟨g, e1, e2, e3, e4⟩ := f4 (h.resolve_right (by decide)); rw [upd_ne v _ (by decide)]; exact ⟨g, e1, e2, fun h2 => blk_below (e3 (fun h3 => h2 (.inl h3))) hb, fun h2 => (hns5 (h2.resolve_right (by decide))).elim⟩), trivial⟩)
      clear hb0 hb1 hb2 hb3 hb4 f0 f1 f2 f3 f4 f5 hK HALL
      simpa [upd, D0] using key
    case succ.succ.succ.succ.zero =>
      have hns5 : ¬ L 5 := fun hs => hnk (hcl 5 _ rfl hs { on := 4, ground := .data } (by simp) rfl)
      have hb := below_alloc (Below.refl W.heap.size W) (.cells #[.bool false, .slice none 0 0, .int .i64 0] 27)
      have key := hK.out (.pointer (some ⟨W.heap.size, 0, none⟩)) (W.alloc (.cells #[.bool false, .slice none 0 0, .int .i64 0] 27)) (by rw [hGM]; exact ⟨hB.next hb, blk_below hb0 hb, blk_below hb1 hb, blk_below hb2 hb, blk_below hb3 hb, blk_below hb4 hb, (kv f0 (by decide)), (kv f1 (by decide)), (kd f2 (by decide) hb), (kd f3 (by decide) hb), fun _ => by rw [upd_eq]; exact ⟨W.heap.size, rfl, hB.2, fun _ => blk_new W _, fun h2 => (hns5 (h2.resolve_right (by decide))).elim⟩, trivial⟩)
      clear hb0 hb1 hb2 hb3 hb4 f0 f1 f2 f3 f4 f5 hK hb hns5
      go_simp
      simpa [upd] using key
    case succ.succ.succ.succ.succ.zero =>
      have h_g := HGS.out
      obtain ⟨g, e1, e2, e3, -⟩ := f4 (haft { on := 4, ground := .data } (by simp) rfl)
      have hgb := e3 hnk
      have ds := f3 (haft { on := 3, ground := .data } (by simp) rfl)
      obtain ⟨bb, A, n, c, x, es⟩ := ds.ex
      refine wp_store_box 27 6 (.tmp 11) rfl rfl (g := g) (e := 27) (v 3) [.bool bb, .slice A n c, .int .i64 x] (by first | rfl | exact e1) rfl (by rw [es]; rfl) info_dyad ?_ hgb rfl ?_
      · intro q hq; simp at hq; rcases hq with rfl | rfl | rfl <;> rfl
      · intro w1 hw1 hg
        have key := hK.out undef w1 (by rw [hGM]; exact ⟨hB.grown hg (by omega), blk_grown hb0 hg (by omega), blk_grown hb1 hg (by omega), blk_grown hb2 hg (by omega), blk_grown hb3 hg (by omega), blk_grown hb4 hg (by omega), (kv f0 (by decide)), (kv f1 (by decide)), (kg f2 (by decide) hgb (by decide) hg), (kg f3 (by decide) hgb (by decide) hg), (fun h => by rw [upd_ne v _ (by decide), upd_ne v _ (by decide)]; exact ⟨g, e1, e2, fun h2 => (h2 (.inr rfl)).elim, fun _ => ⟨bb, A, n, c, x, es, hw1⟩⟩), trivial⟩)
        clear hb0 hb1 hb2 hb3 hb4 f0 f1 f2 f3 f4 f5 hK
        simpa [upd] using key
  case hendM =>
    intro v W L0 hall hGv
    rw [hGM] at hGv
    obtain ⟨hB, hb0, hb1, hb2, hb3, hb4, f0, f1, f2, f3, f4, _⟩ := hGv
    have d3 := f3 (hall 3 (by decide))
    obtain ⟨g, p4, hgs, _, hg5⟩ := f4 (hall 4 (by decide))
    obtain ⟨b9, A9, n9, c9, x9, p9, hx9⟩ := hg5 (hall 5 (by decide))
    rw [p9] at d3
    replace BEL := Aside0.mk hB
    replace XR := Aside0.mk hb1
    replace G2 := Aside0.mk hb3
    replace G3 := Aside0.mk hb4
    have XT := Aside0.mk hx9
    have P9 := Aside0.mk d3
    have h_q := HGS.out
    have HGN := Aside0.mk (And.intro hgs h_q)
    clear hall f0 f1 f2 f3 f4 hB hb0 hb1 hb2 hb3 hb4 d3 hx9 hg5 h_q hgs X0 G1
    simp only [setAll, List.setIfInBounds_toArray, List.set_cons_zero, List.set_cons_succ, Nat.reduceAdd, p4, p9]
    have hwm : wrap64 ((most : Int) + 1) = (most : Int) + 1 := by unfold wrap64; have := HM.out; omega
    obtain ⟨q0, q0'⟩ := box_cell G2.out 0 rfl
    obtain ⟨q1, q1'⟩ := box_cell G3.out 0 rfl
    go_wp2_with fail
    clear q0 q0' q1 q1'
    try rw [hwm]
    go_loopw [31] (fun v31 wr => ∃ i : Nat, v31 = .int .i64 i ∧ i ≤ most + 1 ∧ Aside0 (BelN w 2 wr) ∧ Aside0 (wr.heap[w.heap.size + 1]? = some (.cells #[.bool false, .slice none 0 0, .int .i64 0, .bool false] 51 (0, 0))) ∧ Aside0 (wr.heap[g]? = some (.cells #[.bool b9, .slice A9 n9 c9, .int .i64 x9] 27 (0, 0))) ∧ Aside0 (PDy wr w.heap.size (.agg #[.bool b9, .slice A9 n9 c9, .int .i64 x9]) t (-1074)) ∧ Aside0 (∀ j, j < i → ¬ t = tenI j * M)) (fun v31 _ => (most + 1) - (intOf v31).toNat)
    case atStart => exact ⟨0, rfl, Nat.zero_le _, BEL, XR, XT, P9, ⟨fun j hj => absurd hj (Nat.not_lt_zero _)⟩⟩
    case round =>
      clear BEL XR XT P9 G2 G3 hwm
      obtain ⟨i, rfl, hik, BEL, XR, XT, P9, HNO⟩ := hrel
      by_cases hlt : i < most + 1
      · have hlt' : (i : Int) < (most : Int) + 1 := by omega
        have hld : decide ((i : Int) < (most : Int) + 1) = true := decide_eq_true hlt'
        have HI := Aside0.mk hlt
        obtain ⟨eq, heq⟩ : ∃ q, decide (t = tenI i * M) = q := ⟨_, rfl⟩
        have HEQ : Aside0 ((cmpZ t (tenI i * M) == 0) = eq) := ⟨(cmpZ_zero _ _).trans heq⟩
        have HE2 := Aside0.mk heq
        clear heq
        go_upto_region 9 with fail
        obtain ⟨GN, hGN⟩ : ∃ G : (Nat → Prop) → (Nat → Value) → World → Prop, G = fun L v W => BelN w 2 W ∧ W.heap[w.heap.size + 1]? = some (.cells #[.bool false, .slice none 0 0, .int .i64 0, .bool false] 51 (0, 0)) ∧ W.heap[g]? = some (.cells #[.bool b9, .slice A9 n9 c9, .int .i64 x9] 27 (0, 0)) ∧ PDy W w.heap.size (.agg #[.bool b9, .slice A9 n9 c9, .int .i64 x9]) t (-1074) ∧ (L 0 → (v 0) = .agg #[.bool b9, .slice A9 n9 c9, .int .i64 x9]) ∧ (L 1 → (v 1) = .int .i64 i) ∧ (L 2 → PDy W w.heap.size (v 2) (tenI i * M) (-1074)) ∧ (L 3 → (v 3) = .int .i64 (cmpZ t (tenI i * M))) ∧ (L 4 → (v 4) = .bool eq) := ⟨_, rfl⟩
        refine wp_region_slotsV [34, 35, 36, 37, 38] (by kernel_rfl) (by kernel_rfl) (G := GN) ?h0N ?hstepN ?hendN
        case h0N =>
          intro v; rw [hGN]
          exact ⟨BEL.out.next (below_drew (Below.refl _ _)), blk_drew XR.out, blk_drew XT.out, P9.out.below (below_drew (Below.refl _ _)), fun h => h.elim, fun h => h.elim, fun h => h.elim, fun h => h.elim, fun h => h.elim⟩
        case hstepN =>
          intro k o ho v W L hGv hnk haft hcl K hK
          rw [hGN] at hGv
          obtain ⟨hB, hb0, hb1, hk0, f0, f1, f2, f3, f4⟩ := hGv
          rcases k with _ | _ | _ | _ | _ | k
          all_goals first
            | (cases ho; done)
            | (obtain rfl := (Option.some.inj ho).symm
               clear ho
               rw [if_pos (by rfl)]
               simp only [setAll, List.setIfInBounds_toArray, List.set_cons_zero, List.set_cons_succ, List.set_nil, List.getElem_toArray, List.getElem_cons_zero, List.getElem_cons_succ, Nat.reduceAdd] at haft hK ⊢)
          case zero =>
            have cc0 := (box_cell (v := .bool b9) hb1 0 rfl).1
            have cc1 := (box_cell (v := .slice A9 n9 c9) hb1 1 rfl).1
            have cc2 := (box_cell (v := .int .i64 x9) hb1 2 rfl).1
            have hb := Below.refl W.heap.size W
            have key := hK.out (.agg #[.bool b9, .slice A9 n9 c9, .int .i64 x9]) W (by rw [hGN]; exact ⟨hB.next hb, blk_below hb0 hb, blk_below hb1 hb, hk0.below hb, fun _ => by rw [upd_eq], (kv f1 (by decide)), (kd f2 (by decide) hb), (kv f3 (by decide)), (kv f4 (by decide))⟩)
            clear hb0 hb1 hk0 f0 f1 f2 f3 f4 hb hK
            go_simp
            simpa [upd] using key
          case succ.zero =>
            have hb := Below.refl W.heap.size W
            have key := hK.out (.int .i64 i) W (by rw [hGN]; exact ⟨hB.next hb, blk_below hb0 hb, blk_below hb1 hb, hk0.below hb, (kv f0 (by decide)), fun _ => by rw [upd_eq], (kd f2 (by decide) hb), (kv f3 (by decide)), (kv f4 (by decide))⟩)
            clear hb0 hb1 hk0 f0 f1 f2 f3 f4 hb hK
            go_simp
            simpa [upd] using key
          case succ.succ.zero =>
            have d1 := f1 (haft { on := 1, ground := .data } (by simp) rfl)
            have D1 := d1
            have HALL := Aside0.mk (And.intro hK (And.intro hB (And.intro hb0 ( And.intro hb1 ( And.intro hk0 ( And.intro f0 ( And.intro f1 ( And.intro f2 ( And.intro f3 ( And.intro f4 (True.intro)))))))))))
            clear hK hb0 hb1 hk0 f0 f1 f2 f3 f4
            go_simp
            go_at_call 80
            refine (ten_any i (by have h1 := HI.out; have h2 := HM.out; omega) _ (tab_below HT.out hB.1)).mono ?_
            rintro en w4 ⟨v1, rfl, hr, hb⟩
            obtain ⟨hK, hB, hb0, hb1, hk0, f0, f1, f2, f3, f4, _⟩ := HALL.out
            have key := hK.out (v1) w4 (by rw [hGN]; exact ⟨hB.next hb, blk_below hb0 hb, blk_below hb1 hb, hk0.below hb, (kv f0 (by decide)), (kv f1 (by decide)), fun _ => by rw [upd_eq]; exact (HP.out _ _ _ _ hr).lower (Nat.le_trans (Nat.le_add_right _ _) hB.2), (kv f3 (by decide)), (kv f4 (by decide))⟩)
            clear hb0 hb1 hk0 f0 f1 f2 f3 f4 hK HALL
            simpa [upd, D1] using key
          case succ.succ.succ.zero =>
            have d0 := f0 (haft { on := 0, ground := .data } (by simp) rfl)
            have D0 := d0
            have d2 := f2 (haft { on := 2, ground := .data } (by simp) rfl)
            have D2 := d2
            have K0 := hk0
            have HALL := Aside0.mk (And.intro hK (And.intro hB (And.intro hb0 ( And.intro hb1 ( And.intro hk0 ( And.intro f0 ( And.intro f1 ( And.intro f2 ( And.intro f3 ( And.intro f4 (True.intro)))))))))))
            clear hK hb0 hb1 hk0 f0 f1 f2 f3 f4
            go_simp
            go_at_call 48
            refine (cmp_ok K0.c d2.c OT.out (OTN.out i (by have h1 := HI.out; have h2 := HM.out; omega)) (tab_below HT.out hB.1)).mono ?_
            rintro en w4 ⟨rfl, hb⟩
            obtain ⟨hK, hB, hb0, hb1, hk0, f0, f1, f2, f3, f4, _⟩ := HALL.out
            have key := hK.out (.int .i64 (cmpZ t (tenI i * M))) w4 (by rw [hGN]; exact ⟨hB.next hb, blk_below hb0 hb, blk_below hb1 hb, hk0.below hb, (kv f0 (by decide)), (kv f1 (by decide)), (kd f2 (by decide) hb), fun _ => by rw [upd_eq], (kv f4 (by decide))⟩)
            clear hb0 hb1 hk0 f0 f1 f2 f3 f4 hK HALL
            simpa [upd, D0] using key
          case succ.succ.succ.succ.zero =>
            have d3 := f3 (haft { on := 3, ground := .data } (by simp) rfl)
            have D3 := d3
            have heq := HEQ.out
            have hb := Below.refl W.heap.size W
            have key := hK.out (.bool eq) W (by rw [hGN]; exact ⟨hB.next hb, blk_below hb0 hb, blk_below hb1 hb, hk0.below hb, (kv f0 (by decide)), (kv f1 (by decide)), (kd f2 (by decide) hb), (kv f3 (by decide)), fun _ => by rw [upd_eq]⟩)
            clear hb0 hb1 hk0 f0 f1 f2 f3 f4 hb hK
            go_simp
            simpa [upd, D3] using key
        case hendN =>
          intro v W L0 hall hGv
          rw [hGN] at hGv
          obtain ⟨hB, hb0, hb1, hk0, f0, f1, f2, f3, f4⟩ := hGv
          have d4 := f4 (hall 4 (by decide))
          replace BEL := Aside0.mk hB
          replace XR := Aside0.mk hb0
          replace XT := Aside0.mk hb1
          replace P9 := Aside0.mk hk0
          clear hall f0 f1 f2 f3 f4 hB hb0 hb1 hk0
          simp only [setAll, List.setIfInBounds_toArray, List.set_cons_zero, List.set_cons_succ, Nat.reduceAdd, d4]
          clear d4 hld
          cases eq
          case true =>
            have HTE := Aside0.mk (of_decide_eq_true HE2.out)
            go_wp2_with fail
            have BLW := BEL
            go_at_call 46
            refine (whole_any (i : Int) _ (by omega) (by have h1 := HI.out; have h2 := HM.out; omega) (tab_below HT.out BEL.out.1)).mono ?_
            rintro en31 w31 ⟨v31, rfl, hr, hb⟩
            replace BEL := Aside0.mk (BEL.out.next hb)
            replace XR := Aside0.mk (blk_below XR.out hb)
            replace XT := Aside0.mk (blk_below XT.out hb)
            replace P9 := Aside0.mk (P9.out.below hb)
            have P3 := Aside0.mk hr
            obtain ⟨b31, A31, n31, c31, x31, rfl⟩ := hr.ex5
            clear hr hb
            go_wp2_with (((with_reducible refine gate_store (p := 5) rfl ?_); go_must (refine store_box 51 5 (.tmp 40) rfl rfl rfl (g := w.heap.size + 1) (e := 51) (.agg #[.bool b31, .slice A31 n31 c31, .int .i64 x31, .bool true]) ([.bool b31, .slice A31 n31 c31, .int .i64 x31, .bool true]) rfl rfl rfl info_told ?b1 XR.out rfl ?_; (case b1 => intro q hq; simp at hq; rcases hq with rfl | rfl | rfl | rfl <;> rfl); intro wb hbx hgx; have HX := Aside0.mk hbx; have HG := Aside0.mk hgx; clear hbx hgx)); replace P9 := Aside0.mk (P9.out.grown_box XR.out (by decide) HG.out); replace P3 := Aside0.mk (P3.out.grown_box XR.out (by decide) HG.out); replace BEL := Aside0.mk (BEL.out.grown HG.out (by omega)); replace XT := Aside0.mk (blk_grown XT.out HG.out (by have h_g := HGN.out; omega)); replace XR := HX; clear HG)
            refine bodyPost_ret (results_told rfl _ _ (w.heap.size + 1) _ rfl XR.out rfl) rfl ?_
            rw [log_some HI.out HNO.out HTE.out]
            exact ⟨_, rfl, P3.out.some.lower (Nat.le_trans (Nat.le_add_right _ _) BLW.out.2), BEL.out.1⟩
          case false =>
            have HTE := Aside0.mk (of_decide_eq_false HE2.out)
            have hw : wrap64 ((i : Int) + 1) = (i : Int) + 1 := by unfold wrap64; have := HM.out; omega
            go_wp2_with fail
            go_roundw
            case rel => exact ⟨i + 1, by go_num, HI.out, BEL, XR, XT, P9, ⟨fun j hj => by rcases Nat.lt_or_ge j i with h | h; exact HNO.out j h; rw [show j = i by omega]; exact HTE.out⟩⟩
            case measure => (try rw [hw]); exact meas_int HI.out
      · have hlt' : ¬ (i : Int) < (most : Int) + 1 := by omega
        have hld : decide ((i : Int) < (most : Int) + 1) = false := decide_eq_false hlt'
        have he : i = most + 1 := by omega
        go_wp2_with (((with_reducible refine gate_store (p := 5) rfl ?_); go_must (refine store_box 51 5 (.tmp 42) rfl rfl rfl (g := w.heap.size + 1) (e := 51) (.agg #[.bool false, .slice none 0 0, .int .i64 0, .bool false]) ([.bool false, .slice none 0 0, .int .i64 0, .bool false]) rfl rfl rfl info_told ?b1 XR.out rfl ?_; (case b1 => intro q hq; simp at hq; rcases hq with rfl | rfl | rfl | rfl <;> rfl); intro wb hbx hgx; have HX := Aside0.mk hbx; have HG := Aside0.mk hgx; clear hbx hgx)); replace BEL := Aside0.mk (BEL.out.grown HG.out (by omega)); replace XT := Aside0.mk (blk_grown XT.out HG.out (by have h_g := HGN.out; omega)); replace XR := HX; clear HG)
        refine bodyPost_ret (results_told rfl _ _ (w.heap.size + 1) _ rfl XR.out rfl) rfl ?_
        rw [log_none (fun j hj => HNO.out j (by omega))]
        exact ⟨_, rfl, PO.none _ _, BEL.out.1⟩
end Go.Proofs.YtgpjplelgffocaaDoor

namespace Go.Proofs.YtgpjplelgffocaaDoor
open Go.RowKit Go.Proofs.YtgpjplelgffocaaDoorW.PrintWords Limb
set_option linter.unusedVariables false
set_option linter.unusedSimpArgs false

theorem Clo.of {w : World} {b m : Nat} {cap : Array Value} {G : Int → Option (Int × Int)} (hE : Enters m) (h : ∀ (W : World) (u : Value) (z : Int), Below w.heap.size w W → CDy W u z (-1074) → z.natAbs < 2 ^ 2098 → TabAt 0 Lib.deBruijn64tab W →
    Calls Tryd.prog m (#[u] ++ cap) W fun en W' => ∃ v', en = .returned v' ∧ PO W' b v' (G z) ∧ Below W.heap.size W W') : Clo w b m cap G := ⟨hE, h⟩
theorem ok_z {z : Int} (h : z.natAbs < 2 ^ 2098) : Ok z (-1074) := Ok.of _ h (by decide) (by decide) (by decide)
theorem calls_lower {P : Program} {m : Nat} {args : Array Value} {W : World} {b b' : Nat} {G : Option (Int × Int)} (h : Calls P m args W fun en W' => ∃ v', en = .returned v' ∧ PO W' b v' G ∧ Below W.heap.size W W') (hb : b' ≤ b) :
    Calls P m args W fun en W' => ∃ v', en = .returned v' ∧ PO W' b' v' G ∧ Below W.heap.size W W' :=
  h.mono fun en W' h => by obtain ⟨v', h1, h2, h3⟩ := h; exact ⟨v', h1, h2.lower hb, h3⟩
def atF (n : Int) (y : Int × Int) (z : Int) : Option (Int × Int) := if z = n * 2 ^ 1074 then some y else none
def pow2F (less lo hi : Int) (z : Int) : Option (Int × Int) := (smallF (2 ^ 1074) z lo hi).map (fun n => powV n less)
def pow10F (less lo hi : Int) (z : Int) : Option (Int × Int) := (smallF (2 ^ 1074) z lo hi).map (fun n => (tenI n.toNat - less, 0))
def lg2F (more : Int) (z : Int) : Option (Int × Int) := log2F (z + more * 2 ^ 1074)
def lg10F (more : Int) (most : Nat) (z : Int) : Option (Int × Int) := logF (2 ^ 1074) most (z + more * 2 ^ 1074)
def turnF (K : Int → Int → Option (Int × Int)) (z : Int) : Option (Int × Int) := K (nearF z 1072 % 4) (z - nearF z 1072 * 2 ^ 1073)

def or3 (G0 G1 G2 : Int → Option (Int × Int)) (z : Int) : Option (Int × Int) := (G0 z).or ((G1 z).or (G2 z))
/-- The function values of the cases, by the boxes that they hold. -/
inductive IsClo (w : World) (b : Nat) : Value → (Int → Option (Int × Int)) → Prop where
  | atc {g1 g2 : Nat} {n z0 e0 tx : Int} {tb : Bool} {tA : Option Addr} {tn tc : Nat} (h1 : w.heap[g1]? = some (.cells #[.int .i64 n] 2 (0, 0))) (h2 : w.heap[g2]? = some (.cells #[.bool tb, .slice tA tn tc, .int .i64 tx, .bool true] 51 (0, 0))) (hP : PT w b (.agg #[.bool tb, .slice tA tn tc, .int .i64 tx, .bool true]) z0 e0 true) (hn : n.natAbs < 2 ^ 62) :
      IsClo w b (.func (.func 75) #[] #[.pointer (some ⟨g1, 0, none⟩), .pointer (some ⟨g2, 0, none⟩)]) (atF n (z0, e0))
  | pow2 {g1 g2 g3 g4 : Nat} {less lo hi : Int} (h1 : w.heap[g1]? = some (.cells #[.int .i64 lo] 2 (0, 0))) (h2 : w.heap[g2]? = some (.cells #[.int .i64 hi] 2 (0, 0))) (h3 : w.heap[g3]? = some (.cells #[.int .i64 2] 3 (0, 0))) (h4 : w.heap[g4]? = some (.cells #[.int .i64 less] 2 (0, 0))) (hlo : -16384 ≤ lo) (hhi : hi ≤ 16384) (hl0 : lo.natAbs < 2 ^ 20) (hh0 : hi.natAbs < 2 ^ 20) (hl : less.natAbs < 2 ^ 20) :
      IsClo w b (.func (.func 77) #[] #[.pointer (some ⟨g1, 0, none⟩), .pointer (some ⟨g2, 0, none⟩), .pointer (some ⟨g3, 0, none⟩), .pointer (some ⟨g4, 0, none⟩)]) (pow2F less lo hi)
  | pow10 {g1 g2 g3 g4 : Nat} {less lo hi : Int} (h1 : w.heap[g1]? = some (.cells #[.int .i64 lo] 2 (0, 0))) (h2 : w.heap[g2]? = some (.cells #[.int .i64 hi] 2 (0, 0))) (h3 : w.heap[g3]? = some (.cells #[.int .i64 10] 3 (0, 0))) (h4 : w.heap[g4]? = some (.cells #[.int .i64 less] 2 (0, 0))) (hlo : -16384 ≤ lo) (hhi : hi ≤ 16384) (hl0 : lo.natAbs < 2 ^ 20) (hh0 : hi.natAbs < 2 ^ 20) (hl : less.natAbs < 2 ^ 20) (ht1 : 0 ≤ lo) (ht2 : hi ≤ 50) :
      IsClo w b (.func (.func 77) #[] #[.pointer (some ⟨g1, 0, none⟩), .pointer (some ⟨g2, 0, none⟩), .pointer (some ⟨g3, 0, none⟩), .pointer (some ⟨g4, 0, none⟩)]) (pow10F less lo hi)
  | log2 {g1 g2 g3 most : Nat} {more : Int} (h1 : w.heap[g1]? = some (.cells #[.int .i64 more] 2 (0, 0))) (h2 : w.heap[g2]? = some (.cells #[.int .i64 2] 3 (0, 0))) (h3 : w.heap[g3]? = some (.cells #[.int .i64 most] 3 (0, 0))) (hm : more.natAbs < 2 ^ 20) (hmost : most ≤ 40) :
      IsClo w b (.func (.func 82) #[] #[.pointer (some ⟨g1, 0, none⟩), .pointer (some ⟨g2, 0, none⟩), .pointer (some ⟨g3, 0, none⟩)]) (lg2F more)
  | log10 {g1 g2 g3 most : Nat} {more : Int} (h1 : w.heap[g1]? = some (.cells #[.int .i64 more] 2 (0, 0))) (h2 : w.heap[g2]? = some (.cells #[.int .i64 10] 3 (0, 0))) (h3 : w.heap[g3]? = some (.cells #[.int .i64 most] 3 (0, 0))) (hm : more.natAbs < 2 ^ 20) (hmost : most ≤ 40) :
      IsClo w b (.func (.func 82) #[] #[.pointer (some ⟨g1, 0, none⟩), .pointer (some ⟨g2, 0, none⟩), .pointer (some ⟨g3, 0, none⟩)]) (lg10F more most)
  | turned {g1 m : Nat} {K : Int → Int → Option (Int × Int)} (h1 : w.heap[g1]? = some (.cells #[.func (.func m) #[] #[]] 79 (0, 0))) (hF : SpotFn m K) : IsClo w b (.func (.func 84) #[] #[.pointer (some ⟨g1, 0, none⟩)]) (turnF K)
  | first {g1 gl : Nat} {v0 v1 v2 : Value} {G0 G1 G2 : Int → Option (Int × Int)} (h1 : w.heap[g1]? = some (.cells #[.slice (some ⟨gl, 0, none⟩) 3 3] 102 (0, 0))) (h2 : w.heap[gl]? = some (.cells #[v0, v1, v2] 55 (0, 0))) (c0 : IsClo w b v0 G0) (c1 : IsClo w b v1 G1) (c2 : IsClo w b v2 G2) :
      IsClo w b (.func (.func 86) #[] #[.pointer (some ⟨g1, 0, none⟩)]) (or3 G0 G1 G2)
theorem IsClo.later {w w1 : World} {b : Nat} {v : Value} {G : Int → Option (Int × Int)} (h : IsClo w b v G) (hb : Below w.heap.size w w1) : IsClo w1 b v G := by
  induction h with
  | atc h1 h2 hP hn => exact .atc (blk_below h1 hb) (blk_below h2 hb) (hP.below hb) hn
  | pow2 h1 h2 h3 h4 a b c d e => exact .pow2 (blk_below h1 hb) (blk_below h2 hb) (blk_below h3 hb) (blk_below h4 hb) a b c d e
  | pow10 h1 h2 h3 h4 a b c d e f g => exact .pow10 (blk_below h1 hb) (blk_below h2 hb) (blk_below h3 hb) (blk_below h4 hb) a b c d e f g
  | log2 h1 h2 h3 a b => exact .log2 (blk_below h1 hb) (blk_below h2 hb) (blk_below h3 hb) a b
  | log10 h1 h2 h3 a b => exact .log10 (blk_below h1 hb) (blk_below h2 hb) (blk_below h3 hb) a b
  | turned h1 a => exact .turned (blk_below h1 hb) a
  | first h1 h2 _ _ _ i0 i1 i2 => exact .first (blk_below h1 hb) (blk_below h2 hb) i0 i1 i2
theorem PL.grown_map {w w1 : World} {b g cl : Nat} {v : Value} {l : List Nat} {es : Array MapEntry} (h : PL w b v l) (hb : w.heap[g]? = some (.map es cl)) (hg : w.grownBy w1 (some g)) : PL w1 b v l := by
  obtain ⟨A, n, c, c', l', h1, h2, h3, h4, hr⟩ := h
  have hr2 := Kd.R_mono (ok' := fun k => k ≠ g) (Kd.R_bound hr) (fun k hk => by
    obtain ⟨_, _, _, q, hq, cells', hc⟩ := hk
    rintro rfl
    rw [hc] at hb
    cases hb)
  refine ⟨A, n, c, c', l', h1, h2, h3, h4, Kd.R_mono (Kd.R_grown hr2 hg ?_) (fun _ _ => trivial)⟩
  intro k hk he
  cases he
  exact hk rfl
theorem PT.grown_map {w w1 : World} {b g cl : Nat} {v : Value} {z e : Int} {s : Bool} {es : Array MapEntry} (h : PT w b v z e s) (hb : w.heap[g]? = Option.some (.map es cl)) (hg : w.grownBy w1 (Option.some g)) : PT w1 b v z e s := by
  obtain ⟨bb, A, n, c, x, rfl, A', n', c', h1, hr⟩ := h
  exact ⟨_, _, _, _, _, rfl, A', n', c', h1, hr.grown_map hb hg⟩
theorem blk_map {w w1 : World} {k g cl : Nat} {cs : Array Value} {t : TypeId} {es : Array MapEntry} (h : w.heap[k]? = some (.cells cs t (0, 0))) (hb : w.heap[g]? = some (.map es cl)) (hg : w.grownBy w1 (some g)) : w1.heap[k]? = some (.cells cs t (0, 0)) :=
  blk_grown h hg (by rintro rfl; rw [h] at hb; cases hb)
theorem IsClo.grown_map {w w1 : World} {b g cl : Nat} {v : Value} {G : Int → Option (Int × Int)} {es : Array MapEntry} (h : IsClo w b v G) (hb : w.heap[g]? = some (.map es cl)) (hg : w.grownBy w1 (some g)) : IsClo w1 b v G := by
  induction h with
  | atc h1 h2 hP hn => exact .atc (blk_map h1 hb hg) (blk_map h2 hb hg) (hP.grown_map hb hg) hn
  | pow2 h1 h2 h3 h4 a b c d e => exact .pow2 (blk_map h1 hb hg) (blk_map h2 hb hg) (blk_map h3 hb hg) (blk_map h4 hb hg) a b c d e
  | pow10 h1 h2 h3 h4 a b c d e f g => exact .pow10 (blk_map h1 hb hg) (blk_map h2 hb hg) (blk_map h3 hb hg) (blk_map h4 hb hg) a b c d e f g
  | log2 h1 h2 h3 a b => exact .log2 (blk_map h1 hb hg) (blk_map h2 hb hg) (blk_map h3 hb hg) a b
  | log10 h1 h2 h3 a b => exact .log10 (blk_map h1 hb hg) (blk_map h2 hb hg) (blk_map h3 hb hg) a b
  | turned h1 a => exact .turned (blk_map h1 hb hg) a
  | first h1 h2 _ _ _ i0 i1 i2 => exact .first (blk_map h1 hb hg) (blk_map h2 hb hg) i0 i1 i2
/-- Such a value can be called. -/
theorem IsClo.call {w : World} {b : Nat} {v : Value} {G : Int → Option (Int × Int)} (h : IsClo w b v G) (hb : b ≤ w.heap.size) : ∃ n cap, v = .func (.func n) #[] cap ∧ Clo w b n cap G := by
  induction h with
  | atc h1 h2 hP hn => exact ⟨_, _, rfl, Clo.of (enters_of Tryd.func75 rfl rfl) (fun W u z hW hu hz hT => at1_any hu (ok_z hz) hn (blk_below h1 hW) (blk_below h2 hW) (hP.below hW) hT)⟩
  | pow2 h1 h2 h3 h4 hlo hhi hl0 hh0 hl => exact ⟨_, _, rfl, Clo.of (enters_of Tryd.func77 rfl rfl) (fun W u z hW hu hz hT => calls_lower (power2_any hu (ok_z hz) hlo hhi hl0 hh0 hl (blk_below h1 hW) (blk_below h2 hW) (blk_below h3 hW) (blk_below h4 hW) hT) (Nat.le_trans hb hW.size))⟩
  | pow10 h1 h2 h3 h4 hlo hhi hl0 hh0 hl t1 t2 => exact ⟨_, _, rfl, Clo.of (enters_of Tryd.func77 rfl rfl) (fun W u z hW hu hz hT => calls_lower (power10_any hu (ok_z hz) hlo hhi hl0 hh0 hl t1 t2 (blk_below h1 hW) (blk_below h2 hW) (blk_below h3 hW) (blk_below h4 hW) hT) (Nat.le_trans hb hW.size))⟩
  | log2 h1 h2 h3 hm hmost => exact ⟨_, _, rfl, Clo.of (enters_of Tryd.func82 rfl rfl) (fun W u z hW hu hz hT => calls_lower (log2_any hu hz hm hmost (blk_below h1 hW) (blk_below h2 hW) (blk_below h3 hW) hT) (Nat.le_trans hb hW.size))⟩
  | log10 h1 h2 h3 hm hmost => exact ⟨_, _, rfl, Clo.of (enters_of Tryd.func82 rfl rfl) (fun W u z hW hu hz hT => calls_lower (log10_any hu hz hm hmost (blk_below h1 hW) (blk_below h2 hW) (blk_below h3 hW) hT) (Nat.le_trans hb hW.size))⟩
  | turned h1 hF => exact ⟨_, _, rfl, Clo.of (enters_of Tryd.func84 rfl rfl) (fun W u z hW hu hz hT => calls_lower (turned1_any hu hz hF (blk_below h1 hW) hT) (Nat.le_trans hb hW.size))⟩
  | @first g1 gl v0 v1 v2 G0 G1 G2 h1 h2 _ _ _ i0 i1 i2 =>
    obtain ⟨m0, cap0, rfl, q0⟩ := i0
    obtain ⟨m1, cap1, rfl, q1⟩ := i1
    obtain ⟨m2, cap2, rfl, q2⟩ := i2
    refine ⟨_, _, rfl, Clo.of (enters_of Tryd.func86 rfl rfl) (fun W u z hW hu hz hT => ?_)⟩
    exact first1_any (ms := fun i => match i with | 0 => m0 | 1 => m1 | _ => m2) (caps := fun i => match i with | 0 => cap0 | 1 => cap1 | _ => cap2) (Gs := fun i => match i with | 0 => G0 | 1 => G1 | _ => G2) hu hz (fun i hi => by
      rcases i with _ | _ | _ | i
      · exact q0.below hW
      · exact q1.below hW
      · exact q2.below hW
      · omega) (blk_below h1 hW) (blk_below h2 hW) hT

set_option maxRecDepth 100000 in
set_option maxHeartbeats 8000000 in
theorem at_fn {v : Value} {n z0 e0 : Int} {b : Nat} (w : World) (hP : PT w b v z0 e0 true) (hn : n.natAbs < 2 ^ 62) :
    Calls Tryd.prog 53 #[.int .i64 n, v] w fun en w' => ∃ v', en = .returned v' ∧ IsClo w' b v' (atF n (z0, e0)) ∧ Below w.heap.size w w' := by
  obtain ⟨tb, tA, tn, tc, tx, rfl⟩ := hP.ex5
  have HN := Aside0.mk hn
  have P0 := Aside0.mk (hP.below (below_alloc (below_alloc (Below.refl _ _) (.cells #[.int .i64 n] 2)) (.cells #[.bool tb, .slice tA tn tc, .int .i64 tx, .bool true] 51)))
  clear hP hn
  have hmf : ∀ (fn : Fn) (first cap : Array Value) (w : World), (Instr.makeFunc fn first cap).run Tryd.prog w = .ok (.func fn first cap) w := fun _ _ _ _ => rfl
  go_enter Tryd.func53, Tryd.ntmps53
  have BEL : Aside0 (BelN w 2 ((w.alloc (.cells #[.int .i64 n] 2)).alloc (.cells #[.bool tb, .slice tA tn tc, .int .i64 tx, .bool true] 51))) := ⟨(((BelN.zero w).alloc _).alloc _).less (by decide)⟩
  have X0 : Aside0 (((w.alloc (.cells #[.int .i64 n] 2)).alloc (.cells #[.bool tb, .slice tA tn tc, .int .i64 tx, .bool true] 51)).heap[w.heap.size]? = some (.cells #[.int .i64 n] 2 (0, 0))) := ⟨by have h := blk_new w (.cells #[.int .i64 n] 2); exact blk_alloc (h) _⟩
  have X1 : Aside0 (((w.alloc (.cells #[.int .i64 n] 2)).alloc (.cells #[.bool tb, .slice tA tn tc, .int .i64 tx, .bool true] 51)).heap[w.heap.size + 1]? = some (.cells #[.bool tb, .slice tA tn tc, .int .i64 tx, .bool true] 51 (0, 0))) := ⟨by have h := blk_new (w.alloc (.cells #[.int .i64 n] 2)) (.cells #[.bool tb, .slice tA tn tc, .int .i64 tx, .bool true] 51); rw [size_alloc'] at h; exact h⟩
  go_wp2_with fail
  go_ret
  exact ⟨_, rfl, .atc X0.out X1.out P0.out HN.out, BEL.out.1⟩

set_option maxRecDepth 100000 in
set_option maxHeartbeats 8000000 in
theorem power2_fn {b : Nat} {less lo hi : Int} (w : World) (hlo : -16384 ≤ lo) (hhi : hi ≤ 16384) (hl0 : lo.natAbs < 2 ^ 20) (hh0 : hi.natAbs < 2 ^ 20) (hl : less.natAbs < 2 ^ 20) :
    Calls Tryd.prog 54 #[.int .i64 2, .int .i64 less, .int .i64 lo, .int .i64 hi] w fun en w' => ∃ v', en = .returned v' ∧ IsClo w' b v' (pow2F less lo hi) ∧ Below w.heap.size w w' := by
  have Hhlo := Aside0.mk hlo
  have Hhhi := Aside0.mk hhi
  have Hhl0 := Aside0.mk hl0
  have Hhh0 := Aside0.mk hh0
  have Hhl := Aside0.mk hl
  clear hlo hhi hl0 hh0 hl
  have hmf : ∀ (fn : Fn) (first cap : Array Value) (w : World), (Instr.makeFunc fn first cap).run Tryd.prog w = .ok (.func fn first cap) w := fun _ _ _ _ => rfl
  go_enter Tryd.func54, Tryd.ntmps54
  have BEL : Aside0 (BelN w 4 ((((w.alloc (.cells #[.int .i64 2] 3)).alloc (.cells #[.int .i64 less] 2)).alloc (.cells #[.int .i64 lo] 2)).alloc (.cells #[.int .i64 hi] 2))) := ⟨(((((BelN.zero w).alloc _).alloc _).alloc _).alloc _).less (by decide)⟩
  have X0 : Aside0 (((((w.alloc (.cells #[.int .i64 2] 3)).alloc (.cells #[.int .i64 less] 2)).alloc (.cells #[.int .i64 lo] 2)).alloc (.cells #[.int .i64 hi] 2)).heap[w.heap.size]? = some (.cells #[.int .i64 2] 3 (0, 0))) := ⟨by have h := blk_new w (.cells #[.int .i64 2] 3); exact blk_alloc (blk_alloc (blk_alloc (h) _) _) _⟩
  have X1 : Aside0 (((((w.alloc (.cells #[.int .i64 2] 3)).alloc (.cells #[.int .i64 less] 2)).alloc (.cells #[.int .i64 lo] 2)).alloc (.cells #[.int .i64 hi] 2)).heap[w.heap.size + 1]? = some (.cells #[.int .i64 less] 2 (0, 0))) := ⟨by have h := blk_new (w.alloc (.cells #[.int .i64 2] 3)) (.cells #[.int .i64 less] 2); rw [size_alloc'] at h; exact blk_alloc (blk_alloc (h) _) _⟩
  have X2 : Aside0 (((((w.alloc (.cells #[.int .i64 2] 3)).alloc (.cells #[.int .i64 less] 2)).alloc (.cells #[.int .i64 lo] 2)).alloc (.cells #[.int .i64 hi] 2)).heap[w.heap.size + 1 + 1]? = some (.cells #[.int .i64 lo] 2 (0, 0))) := ⟨by have h := blk_new ((w.alloc (.cells #[.int .i64 2] 3)).alloc (.cells #[.int .i64 less] 2)) (.cells #[.int .i64 lo] 2); rw [size_alloc', size_alloc'] at h; exact blk_alloc (h) _⟩
  have X3 : Aside0 (((((w.alloc (.cells #[.int .i64 2] 3)).alloc (.cells #[.int .i64 less] 2)).alloc (.cells #[.int .i64 lo] 2)).alloc (.cells #[.int .i64 hi] 2)).heap[w.heap.size + 1 + 1 + 1]? = some (.cells #[.int .i64 hi] 2 (0, 0))) := ⟨by have h := blk_new (((w.alloc (.cells #[.int .i64 2] 3)).alloc (.cells #[.int .i64 less] 2)).alloc (.cells #[.int .i64 lo] 2)) (.cells #[.int .i64 hi] 2); rw [size_alloc', size_alloc', size_alloc'] at h; exact h⟩
  go_wp2_with fail
  go_ret
  exact ⟨_, rfl, .pow2 X2.out X3.out X0.out X1.out Hhlo.out Hhhi.out Hhl0.out Hhh0.out Hhl.out, BEL.out.1⟩

set_option maxRecDepth 100000 in
set_option maxHeartbeats 8000000 in
theorem power10_fn {b : Nat} {less lo hi : Int} (w : World) (hlo : -16384 ≤ lo) (hhi : hi ≤ 16384) (hl0 : lo.natAbs < 2 ^ 20) (hh0 : hi.natAbs < 2 ^ 20) (hl : less.natAbs < 2 ^ 20) (hten : 0 ≤ lo) (hten2 : hi ≤ 50) :
    Calls Tryd.prog 54 #[.int .i64 10, .int .i64 less, .int .i64 lo, .int .i64 hi] w fun en w' => ∃ v', en = .returned v' ∧ IsClo w' b v' (pow10F less lo hi) ∧ Below w.heap.size w w' := by
  have Hhlo := Aside0.mk hlo
  have Hhhi := Aside0.mk hhi
  have Hhl0 := Aside0.mk hl0
  have Hhh0 := Aside0.mk hh0
  have Hhl := Aside0.mk hl
  have Hhten := Aside0.mk hten
  have Hhten2 := Aside0.mk hten2
  clear hlo hhi hl0 hh0 hl hten hten2
  have hmf : ∀ (fn : Fn) (first cap : Array Value) (w : World), (Instr.makeFunc fn first cap).run Tryd.prog w = .ok (.func fn first cap) w := fun _ _ _ _ => rfl
  go_enter Tryd.func54, Tryd.ntmps54
  have BEL : Aside0 (BelN w 4 ((((w.alloc (.cells #[.int .i64 10] 3)).alloc (.cells #[.int .i64 less] 2)).alloc (.cells #[.int .i64 lo] 2)).alloc (.cells #[.int .i64 hi] 2))) := ⟨(((((BelN.zero w).alloc _).alloc _).alloc _).alloc _).less (by decide)⟩
  have X0 : Aside0 (((((w.alloc (.cells #[.int .i64 10] 3)).alloc (.cells #[.int .i64 less] 2)).alloc (.cells #[.int .i64 lo] 2)).alloc (.cells #[.int .i64 hi] 2)).heap[w.heap.size]? = some (.cells #[.int .i64 10] 3 (0, 0))) := ⟨by have h := blk_new w (.cells #[.int .i64 10] 3); exact blk_alloc (blk_alloc (blk_alloc (h) _) _) _⟩
  have X1 : Aside0 (((((w.alloc (.cells #[.int .i64 10] 3)).alloc (.cells #[.int .i64 less] 2)).alloc (.cells #[.int .i64 lo] 2)).alloc (.cells #[.int .i64 hi] 2)).heap[w.heap.size + 1]? = some (.cells #[.int .i64 less] 2 (0, 0))) := ⟨by have h := blk_new (w.alloc (.cells #[.int .i64 10] 3)) (.cells #[.int .i64 less] 2); rw [size_alloc'] at h; exact blk_alloc (blk_alloc (h) _) _⟩
  have X2 : Aside0 (((((w.alloc (.cells #[.int .i64 10] 3)).alloc (.cells #[.int .i64 less] 2)).alloc (.cells #[.int .i64 lo] 2)).alloc (.cells #[.int .i64 hi] 2)).heap[w.heap.size + 1 + 1]? = some (.cells #[.int .i64 lo] 2 (0, 0))) := ⟨by have h := blk_new ((w.alloc (.cells #[.int .i64 10] 3)).alloc (.cells #[.int .i64 less] 2)) (.cells #[.int .i64 lo] 2); rw [size_alloc', size_alloc'] at h; exact blk_alloc (h) _⟩
  have X3 : Aside0 (((((w.alloc (.cells #[.int .i64 10] 3)).alloc (.cells #[.int .i64 less] 2)).alloc (.cells #[.int .i64 lo] 2)).alloc (.cells #[.int .i64 hi] 2)).heap[w.heap.size + 1 + 1 + 1]? = some (.cells #[.int .i64 hi] 2 (0, 0))) := ⟨by have h := blk_new (((w.alloc (.cells #[.int .i64 10] 3)).alloc (.cells #[.int .i64 less] 2)).alloc (.cells #[.int .i64 lo] 2)) (.cells #[.int .i64 hi] 2); rw [size_alloc', size_alloc', size_alloc'] at h; exact h⟩
  go_wp2_with fail
  go_ret
  exact ⟨_, rfl, .pow10 X2.out X3.out X0.out X1.out Hhlo.out Hhhi.out Hhl0.out Hhh0.out Hhl.out Hhten.out Hhten2.out, BEL.out.1⟩

set_option maxRecDepth 100000 in
set_option maxHeartbeats 8000000 in
theorem log2_fn {b most : Nat} {more : Int} (w : World) (hm : more.natAbs < 2 ^ 20) (hmost : most ≤ 40) :
    Calls Tryd.prog 55 #[.int .i64 2, .int .i64 more, .int .i64 most] w fun en w' => ∃ v', en = .returned v' ∧ IsClo w' b v' (lg2F more) ∧ Below w.heap.size w w' := by
  have Hhm := Aside0.mk hm
  have Hhmost := Aside0.mk hmost
  clear hm hmost
  have hmf : ∀ (fn : Fn) (first cap : Array Value) (w : World), (Instr.makeFunc fn first cap).run Tryd.prog w = .ok (.func fn first cap) w := fun _ _ _ _ => rfl
  go_enter Tryd.func55, Tryd.ntmps55
  have BEL : Aside0 (BelN w 3 (((w.alloc (.cells #[.int .i64 2] 3)).alloc (.cells #[.int .i64 more] 2)).alloc (.cells #[.int .i64 most] 3))) := ⟨((((BelN.zero w).alloc _).alloc _).alloc _).less (by decide)⟩
  have X0 : Aside0 ((((w.alloc (.cells #[.int .i64 2] 3)).alloc (.cells #[.int .i64 more] 2)).alloc (.cells #[.int .i64 most] 3)).heap[w.heap.size]? = some (.cells #[.int .i64 2] 3 (0, 0))) := ⟨by have h := blk_new w (.cells #[.int .i64 2] 3); exact blk_alloc (blk_alloc (h) _) _⟩
  have X1 : Aside0 ((((w.alloc (.cells #[.int .i64 2] 3)).alloc (.cells #[.int .i64 more] 2)).alloc (.cells #[.int .i64 most] 3)).heap[w.heap.size + 1]? = some (.cells #[.int .i64 more] 2 (0, 0))) := ⟨by have h := blk_new (w.alloc (.cells #[.int .i64 2] 3)) (.cells #[.int .i64 more] 2); rw [size_alloc'] at h; exact blk_alloc (h) _⟩
  have X2 : Aside0 ((((w.alloc (.cells #[.int .i64 2] 3)).alloc (.cells #[.int .i64 more] 2)).alloc (.cells #[.int .i64 most] 3)).heap[w.heap.size + 1 + 1]? = some (.cells #[.int .i64 most] 3 (0, 0))) := ⟨by have h := blk_new ((w.alloc (.cells #[.int .i64 2] 3)).alloc (.cells #[.int .i64 more] 2)) (.cells #[.int .i64 most] 3); rw [size_alloc', size_alloc'] at h; exact h⟩
  go_wp2_with fail
  go_ret
  exact ⟨_, rfl, .log2 X1.out X0.out X2.out Hhm.out Hhmost.out, BEL.out.1⟩

set_option maxRecDepth 100000 in
set_option maxHeartbeats 8000000 in
theorem log10_fn {b most : Nat} {more : Int} (w : World) (hm : more.natAbs < 2 ^ 20) (hmost : most ≤ 40) :
    Calls Tryd.prog 55 #[.int .i64 10, .int .i64 more, .int .i64 most] w fun en w' => ∃ v', en = .returned v' ∧ IsClo w' b v' (lg10F more most) ∧ Below w.heap.size w w' := by
  have Hhm := Aside0.mk hm
  have Hhmost := Aside0.mk hmost
  clear hm hmost
  have hmf : ∀ (fn : Fn) (first cap : Array Value) (w : World), (Instr.makeFunc fn first cap).run Tryd.prog w = .ok (.func fn first cap) w := fun _ _ _ _ => rfl
  go_enter Tryd.func55, Tryd.ntmps55
  have BEL : Aside0 (BelN w 3 (((w.alloc (.cells #[.int .i64 10] 3)).alloc (.cells #[.int .i64 more] 2)).alloc (.cells #[.int .i64 most] 3))) := ⟨((((BelN.zero w).alloc _).alloc _).alloc _).less (by decide)⟩
  have X0 : Aside0 ((((w.alloc (.cells #[.int .i64 10] 3)).alloc (.cells #[.int .i64 more] 2)).alloc (.cells #[.int .i64 most] 3)).heap[w.heap.size]? = some (.cells #[.int .i64 10] 3 (0, 0))) := ⟨by have h := blk_new w (.cells #[.int .i64 10] 3); exact blk_alloc (blk_alloc (h) _) _⟩
  have X1 : Aside0 ((((w.alloc (.cells #[.int .i64 10] 3)).alloc (.cells #[.int .i64 more] 2)).alloc (.cells #[.int .i64 most] 3)).heap[w.heap.size + 1]? = some (.cells #[.int .i64 more] 2 (0, 0))) := ⟨by have h := blk_new (w.alloc (.cells #[.int .i64 10] 3)) (.cells #[.int .i64 more] 2); rw [size_alloc'] at h; exact blk_alloc (h) _⟩
  have X2 : Aside0 ((((w.alloc (.cells #[.int .i64 10] 3)).alloc (.cells #[.int .i64 more] 2)).alloc (.cells #[.int .i64 most] 3)).heap[w.heap.size + 1 + 1]? = some (.cells #[.int .i64 most] 3 (0, 0))) := ⟨by have h := blk_new ((w.alloc (.cells #[.int .i64 10] 3)).alloc (.cells #[.int .i64 more] 2)) (.cells #[.int .i64 most] 3); rw [size_alloc', size_alloc'] at h; exact h⟩
  go_wp2_with fail
  go_ret
  exact ⟨_, rfl, .log10 X1.out X0.out X2.out Hhm.out Hhmost.out, BEL.out.1⟩

set_option maxRecDepth 100000 in
set_option maxHeartbeats 8000000 in
theorem turned_fn {b m : Nat} {K : Int → Int → Option (Int × Int)} (w : World) (hF : SpotFn m K) :
    Calls Tryd.prog 56 #[.func (.func m) #[] #[]] w fun en w' => ∃ v', en = .returned v' ∧ IsClo w' b v' (turnF K) ∧ Below w.heap.size w w' := by
  have HF := Aside0.mk hF
  clear hF
  have hmf : ∀ (fn : Fn) (first cap : Array Value) (w : World), (Instr.makeFunc fn first cap).run Tryd.prog w = .ok (.func fn first cap) w := fun _ _ _ _ => rfl
  go_enter Tryd.func56, Tryd.ntmps56
  have BEL : Aside0 (BelN w 1 (w.alloc (.cells #[.func (.func m) #[] #[]] 79))) := ⟨((BelN.zero w).alloc _).less (by decide)⟩
  have X0 : Aside0 ((w.alloc (.cells #[.func (.func m) #[] #[]] 79)).heap[w.heap.size]? = some (.cells #[.func (.func m) #[] #[]] 79 (0, 0))) := ⟨by have h := blk_new w (.cells #[.func (.func m) #[] #[]] 79); exact h⟩
  go_wp2_with fail
  go_ret
  exact ⟨_, rfl, .turned X0.out HF.out, BEL.out.1⟩

set_option maxRecDepth 100000 in
set_option maxHeartbeats 8000000 in
theorem first_fn {b gl : Nat} {v0 v1 v2 : Value} {G0 G1 G2 : Int → Option (Int × Int)} (w : World) (h2 : w.heap[gl]? = some (.cells #[v0, v1, v2] 55 (0, 0))) (c0 : IsClo w b v0 G0) (c1 : IsClo w b v1 G1) (c2 : IsClo w b v2 G2) :
    Calls Tryd.prog 60 #[.slice (some ⟨gl, 0, none⟩) 3 3] w fun en w' => ∃ v', en = .returned v' ∧ IsClo w' b v' (or3 G0 G1 G2) ∧ Below w.heap.size w w' := by
  have H2 := Aside0.mk (blk_alloc h2 (.cells #[.slice (some ⟨gl, 0, none⟩) 3 3] 102))
  have C0 := Aside0.mk (c0.later (below_alloc (Below.refl _ _) (.cells #[.slice (some ⟨gl, 0, none⟩) 3 3] 102)))
  have C1 := Aside0.mk (c1.later (below_alloc (Below.refl _ _) (.cells #[.slice (some ⟨gl, 0, none⟩) 3 3] 102)))
  have C2 := Aside0.mk (c2.later (below_alloc (Below.refl _ _) (.cells #[.slice (some ⟨gl, 0, none⟩) 3 3] 102)))
  clear h2 c0 c1 c2
  have hmf : ∀ (fn : Fn) (first cap : Array Value) (w : World), (Instr.makeFunc fn first cap).run Tryd.prog w = .ok (.func fn first cap) w := fun _ _ _ _ => rfl
  go_enter Tryd.func60, Tryd.ntmps60
  have BEL : Aside0 (BelN w 1 (w.alloc (.cells #[.slice (some ⟨gl, 0, none⟩) 3 3] 102))) := ⟨((BelN.zero w).alloc _).less (by decide)⟩
  have X0 : Aside0 ((w.alloc (.cells #[.slice (some ⟨gl, 0, none⟩) 3 3] 102)).heap[w.heap.size]? = some (.cells #[.slice (some ⟨gl, 0, none⟩) 3 3] 102 (0, 0))) := ⟨by have h := blk_new w (.cells #[.slice (some ⟨gl, 0, none⟩) 3 3] 102); exact h⟩
  go_wp2_with fail
  go_ret
  exact ⟨_, rfl, .first X0.out H2.out C0.out C1.out C2.out, BEL.out.1⟩

/-- A map whose keys are 1, 2, .. in order; its values. -/
def MapB (w : World) (m : Nat) (L : List Value) : Prop :=
  ∃ es clock, w.heap[m]? = some (.map es clock) ∧ es.toList.map (·.key) = (List.range L.length).map (fun i : Nat => Value.int .u8 ((i : Int) + 1)) ∧ es.toList.map (·.val) = L
theorem MapB.new (w : World) : MapB (w.alloc (.map #[] 0)) w.heap.size [] := ⟨#[], 0, (MapKept.heap_alloc w _).1, rfl, rfl⟩
theorem MapB.below {w w1 : World} {m : Nat} {L : List Value} (h : MapB w m L) (hb : Below w.heap.size w w1) : MapB w1 m L := by
  obtain ⟨es, cl, h1, h2, h3⟩ := h
  exact ⟨es, cl, blk_below h1 hb, h2, h3⟩
theorem map_under : ∃ e, Tryd.prog.underlying 56 = some (.map 22 e) := ⟨55, by kernel_rfl⟩
theorem key_under : Tryd.prog.underlying 22 = some (.int .u8) := by kernel_rfl
theorem MapB.keys {L : List Value} {es : Array MapEntry} (h : es.toList.map (·.key) = (List.range L.length).map (fun i : Nat => Value.int .u8 ((i : Int) + 1))) : (∀ x ∈ es.toList, MapKept.IsKey (.int .u8) x.key) ∧ ∀ x ∈ es.toList, ∃ i : Nat, i < L.length ∧ x.key = .int .u8 ((i : Int) + 1) := by
  have h2 : ∀ x ∈ es.toList, ∃ i : Nat, i < L.length ∧ x.key = .int .u8 ((i : Int) + 1) := by
    intro x hx
    have h3 : x.key ∈ es.toList.map (·.key) := List.mem_map.2 ⟨x, hx, rfl⟩
    rw [h] at h3
    obtain ⟨i, hi, he⟩ := List.mem_map.1 h3
    exact ⟨i, by simpa using hi, he.symm⟩
  exact ⟨fun x hx => by obtain ⟨i, _, he⟩ := h2 x hx; rw [he]; rfl, h2⟩
theorem map_insert {w : World} {m : Nat} {L : List Value} {k : Int} {v : Value} (h : MapB w m L) (hk : k = (L.length : Int) + 1) :
    ∃ w1, (Instr.mapUpdate 56 (.map (some m)) (.int .u8 k) v).run Tryd.prog w = .ok () w1 ∧ MapB w1 m (L ++ [v]) ∧ w.grownBy w1 (some m) := by
  obtain ⟨es, cl, hb, h2, h3⟩ := h
  obtain ⟨e, hm⟩ := map_under
  obtain ⟨hks, hkk⟩ := MapB.keys h2
  have hkey : MapKept.IsKey (.int .u8) (.int .u8 k) := rfl
  rcases MapKept.findNow_spec hkey es.toList 0 hks with ⟨h5, h6⟩ | ⟨j, e, h5, h6, h7⟩
  · refine ⟨{ w with heap := w.heap.setIfInBounds m (.map (es.push { key := .int .u8 k, val := v, born := cl }) (cl + 1)) }, by simp [Instr.mapUpdate, run_underlying hm, MapKept.run_getObj_map hb, MapKept.run_checkKey key_under hkey, MapKept.run_findKey key_under h5, MapKept.run_setObj_map _ hb, Result.andThen], ⟨_, _, (MapKept.heap_set hb).1, ?_, ?_⟩, ⟨rfl, rfl, rfl, by simp, fun k _ hne => (MapKept.heap_set hb).2 k (fun he => hne (by rw [he]))⟩⟩
    · simp [List.range_succ, h2, hk]
    · simp [h3]
  · exfalso
    obtain ⟨i, hi, he⟩ := hkk e (List.mem_of_getElem? h6)
    rw [he] at h7
    injection h7 with _ h7
    omega
set_option maxRecDepth 100000 in
theorem map_lookup {w : World} {m : Nat} {L : List Value} {f : Nat} {v : Value} (h : MapB w m L) (hf : L[f]? = some v) :
    (Instr.lookup 56 (.map (some m)) (.int .u8 ((f : Int) + 1)) false).run Tryd.prog w = .ok v w := by
  obtain ⟨es, cl, hb, h2, h3⟩ := h
  obtain ⟨e, hm⟩ := map_under
  obtain ⟨hks, hkk⟩ := MapB.keys h2
  have hkey : MapKept.IsKey (.int .u8) (.int .u8 ((f : Int) + 1)) := rfl
  have hlen : es.toList.length = L.length := by rw [← h3]; simp
  have hfl : f < L.length := by
    refine Classical.byContradiction fun hc => ?_
    rw [List.getElem?_eq_none (by omega)] at hf
    cases hf
  obtain ⟨x, hx⟩ : ∃ x, es.toList[f]? = some x := ⟨_, List.getElem?_eq_getElem (by omega)⟩
  have keyAt : ∀ (j : Nat) (y : MapEntry), es.toList[j]? = some y → y.key = .int .u8 ((j : Int) + 1) := by
    intro j y hy
    have h8 : (es.toList.map (·.key))[j]? = some y.key := by rw [List.getElem?_map, hy]; rfl
    rw [h2, List.getElem?_map] at h8
    have hj : j < L.length := by
      refine Classical.byContradiction fun hc => ?_
      rw [List.getElem?_eq_none (by omega)] at hy
      cases hy
    rw [List.getElem?_range hj] at h8
    exact (Option.some.inj h8).symm
  rcases MapKept.findNow_spec hkey es.toList 0 hks with ⟨h5, h6⟩ | ⟨j, e, h5, h6, h7⟩
  · exact absurd (keyAt f x hx) (h6 x (List.mem_of_getElem? hx))
  · have h8 := keyAt j e h6
    rw [h7] at h8
    injection h8 with _ h8
    have hjf : j = f := by omega
    subst hjf
    have h9 : e.val = v := by
      have : (es.toList.map (·.val))[j]? = some e.val := by rw [List.getElem?_map, h6]; rfl
      rw [h3, hf] at this
      exact (Option.some.inj this).symm
    simp [Instr.lookup, run_underlying hm, MapKept.run_getObj_map hb, MapKept.run_checkKey key_under hkey, MapKept.run_findKey key_under h5, Result.andThen, h9]
section
variable {P : Program} {ops : Array Oper} {rest : List Oper} {o : Oper} {a : Act} {Q : Exit → Act → World → Prop} {W : World}
end
end Go.Proofs.YtgpjplelgffocaaDoor

namespace Go.Proofs.YtgpjplelgffocaaDoor
open Go.RowKit Go.Proofs.YtgpjplelgffocaaDoorW.PrintWords Limb
set_option linter.unusedVariables false
set_option linter.unusedSimpArgs false

/-- A map of the cases' function values, in the order of its keys. -/
def MapC (w : World) (b m : Nat) (Gs : List (Int → Option (Int × Int))) : Prop := ∃ L, MapB w m L ∧ L.length = Gs.length ∧ ∀ (i : Nat) (v : Value) (G : Int → Option (Int × Int)), L[i]? = some v → Gs[i]? = some G → IsClo w b v G
theorem MapC.new (w : World) (b : Nat) : MapC (w.alloc (.map #[] 0)) b w.heap.size [] := ⟨[], MapB.new w, rfl, fun i v G h => by cases h⟩
theorem MapC.later {w w1 : World} {b m : Nat} {Gs : List (Int → Option (Int × Int))} (h : MapC w b m Gs) (hb : Below w.heap.size w w1) : MapC w1 b m Gs := by
  obtain ⟨L, h1, h2, h3⟩ := h
  exact ⟨L, h1.below hb, h2, fun i v G hv hG => (h3 i v G hv hG).later hb⟩
theorem MapC.blk {w : World} {b m : Nat} {Gs : List (Int → Option (Int × Int))} (h : MapC w b m Gs) : ∃ es cl, w.heap[m]? = some (.map es cl) := by
  obtain ⟨L, ⟨es, cl, h1, _⟩, _⟩ := h
  exact ⟨es, cl, h1⟩
theorem ins_fact {W : World} {k : Int} {xv : Value} {b m : Nat} {Gs : List (Int → Option (Int × Int))} {G : Int → Option (Int × Int)} (hM : MapC W b m Gs) (hC : IsClo W b xv G) (hk : k = (Gs.length : Int) + 1) :
    ∃ w1, (Instr.mapUpdate 56 (.map (some m)) (.int .u8 k) xv).run Tryd.prog W = .ok () w1 ∧ MapC w1 b m (Gs ++ [G]) ∧ W.grownBy w1 (some m) := by
  obtain ⟨L, h1, h2, h3⟩ := hM
  obtain ⟨w1, e1, e2, e3⟩ := map_insert (v := xv) h1 (k := k) (by rw [hk, h2])
  refine ⟨w1, e1, ?_, e3⟩
  obtain ⟨es, cl, hb, _⟩ := h1
  refine ⟨_, e2, by simp [h2], fun i v G' hv hG => ?_⟩
  rcases Nat.lt_or_ge i L.length with hi | hi
  · rw [List.getElem?_append_left hi] at hv
    rw [List.getElem?_append_left (by omega)] at hG
    exact (h3 i v G' hv hG).grown_map hb e3
  · rw [List.getElem?_append_right hi] at hv
    rw [List.getElem?_append_right (by omega)] at hG
    rw [h2] at hv
    cases hj : i - Gs.length with
    | zero =>
      rw [hj] at hv hG
      obtain rfl := Option.some.inj hv
      obtain rfl := Option.some.inj hG
      exact hC.grown_map hb e3
    | succ j => rw [hj] at hv; cases hv
theorem IsClo.shape {w : World} {b : Nat} {v : Value} {G : Int → Option (Int × Int)} (h : IsClo w b v G) : ∃ n cap, v = .func (.func n) #[] cap := by
  cases h <;> exact ⟨_, _, rfl⟩
theorem clo_map {w w1 : World} {b m : Nat} {v : Value} {G : Int → Option (Int × Int)} {Gs : List (Int → Option (Int × Int))} (h : IsClo w b v G) (hM : MapC w b m Gs) (hg : w.grownBy w1 (some m)) : IsClo w1 b v G := by
  obtain ⟨es, cl, hb⟩ := hM.blk
  exact h.grown_map hb hg
def sineK (k r : Int) : Option (Int × Int) := if r = 0 then some (sel 0 1 0 (-1) k, 0) else none
def cosineK (k r : Int) : Option (Int × Int) := if r = 0 then some (sel 1 0 (-1) 0 k, 0) else none
def tangentK (k r : Int) : Option (Int × Int) := tanF k r (2 ^ 1072)
def caseL : List (Int → Option (Int × Int)) := [atF 0 (1, 0), pow2F 0 (-16384) 16384, pow10F 0 0 23, atF 0 (0, 0), pow2F 1 (-54) 54, pow10F 1 0 16, atF 1 (0, 0), lg2F 0, lg10F 0 22, atF 0 (0, 0), lg2F 1, lg10F 1 16, atF 0 (0, 0), atF 0 (1, 0), atF 0 (0, 0), turnF sineK, turnF cosineK, turnF tangentK, atF 0 (0, 0), atF 1 (0, 0), atF 0 (0, 0), or3 (atF 0 (0, 0)) (atF 1 (1, 0 + -1)) (atF (-1) (-1, 0 + -1)), or3 (atF 1 (0, 0)) (atF 0 (1, 0 + -1)) (atF (-1) (1, 0)), or3 (atF 0 (0, 0)) (atF 1 (1, 0 + -2)) (atF (-1) (-1, 0 + -2)), atF 0 (0, 0), atF 0 (1, 0), atF 0 (0, 0), atF 0 (0, 0), atF 1 (0, 0), atF 0 (0, 0)]

set_option maxRecDepth 100000 in
set_option maxHeartbeats 8000000 in
theorem cases_any (w : World) (hT : TabAt 0 Lib.deBruijn64tab w) :
    Calls Tryd.prog 31 #[] w fun en w' => ∃ m, en = .returned (.map (some m)) ∧ MapC w' w.heap.size m caseL ∧ Below w.heap.size w w' := by
  have HT := Aside0.mk hT
  have hmm := @run_makeMap
  clear hT
  have BEL := Aside0.mk (BelN.zero w)
  go_enter Tryd.func31, Tryd.ntmps31
  go_wp2_with fail
  go_at_call 46
  refine (whole_any (0) _ (by decide) (by decide) (tab_below HT.out BEL.out.1)).mono ?_
  rintro en1 w1 ⟨v1, rfl, hr, hb⟩
  have hl := hr.lower (Nat.le_trans (Nat.le_add_right _ _) BEL.out.2)
  replace BEL := Aside0.mk (BEL.out.next hb)
  have T1 := Aside0.mk hl
  clear hr hb hl
  go_wp2_with fail
  go_at_call 53
  refine (at_fn (n := 0) _ T1.out (by decide)).mono ?_
  rintro en2 w2 ⟨v2, rfl, hr, hb⟩
  replace BEL := Aside0.mk (BEL.out.next hb)
  replace T1 := Aside0.mk (T1.out.below hb)
  obtain ⟨n2, c2, rfl⟩ := hr.shape
  have CZ := Aside0.mk hr
  clear hr hb
  clear T1
  go_wp2_with fail
  go_at_call 46
  refine (whole_any (1) _ (by decide) (by decide) (tab_below HT.out BEL.out.1)).mono ?_
  rintro en3 w3 ⟨v3, rfl, hr, hb⟩
  have hl := hr.lower (Nat.le_trans (Nat.le_add_right _ _) BEL.out.2)
  replace BEL := Aside0.mk (BEL.out.next hb)
  replace CZ := Aside0.mk (CZ.out.later hb)
  have T1 := Aside0.mk hl
  clear hr hb hl
  go_wp2_with fail
  go_at_call 53
  refine (at_fn (n := 0) _ T1.out (by decide)).mono ?_
  rintro en4 w4 ⟨v4, rfl, hr, hb⟩
  replace BEL := Aside0.mk (BEL.out.next hb)
  replace CZ := Aside0.mk (CZ.out.later hb)
  replace T1 := Aside0.mk (T1.out.below hb)
  obtain ⟨n4, c4, rfl⟩ := hr.shape
  have CO := Aside0.mk hr
  clear hr hb
  clear T1
  have LM := Aside0.mk (show w.heap.size ≤ w4.heap.size from BEL.out.1.size)
  replace BEL := Aside0.mk (BEL.out.next (below_alloc (Below.refl _ _) (.map #[] 0)))
  replace CZ := Aside0.mk (CZ.out.later (below_alloc (Below.refl _ _) (.map #[] 0)))
  replace CO := Aside0.mk (CO.out.later (below_alloc (Below.refl _ _) (.map #[] 0)))
  have MC := Aside0.mk (MapC.new w4 w.heap.size)
  obtain ⟨wi1, hi1, hmc, hgi⟩ := ins_fact (k := 1) MC.out CO.out (by rfl)
  replace BEL := Aside0.mk (BEL.out.grown hgi LM.out)
  replace CZ := Aside0.mk (clo_map CZ.out MC.out hgi)
  replace CO := Aside0.mk (clo_map CO.out MC.out hgi)
  replace MC := Aside0.mk hmc
  clear hmc hgi
  go_wp2_with fail
  clear hi1
  go_at_call 54
  refine (power2_fn (b := w.heap.size) _ (by decide) (by decide) (by decide) (by decide) (by decide)).mono ?_
  rintro en5 w5 ⟨v5, rfl, hr, hb⟩
  replace BEL := Aside0.mk (BEL.out.next hb)
  replace MC := Aside0.mk (MC.out.later hb)
  replace CZ := Aside0.mk (CZ.out.later hb)
  replace CO := Aside0.mk (CO.out.later hb)
  obtain ⟨n5, c5, rfl⟩ := hr.shape
  have C9 := Aside0.mk hr
  clear hr hb
  obtain ⟨wi2, hi2, hmc, hgi⟩ := ins_fact (k := 2) MC.out C9.out (by rfl)
  replace BEL := Aside0.mk (BEL.out.grown hgi LM.out)
  replace CZ := Aside0.mk (clo_map CZ.out MC.out hgi)
  replace CO := Aside0.mk (clo_map CO.out MC.out hgi)
  replace C9 := Aside0.mk (clo_map C9.out MC.out hgi)
  replace MC := Aside0.mk hmc
  clear hmc hgi
  go_wp2_with fail
  clear hi2
  clear C9
  go_at_call 54
  refine (power10_fn (b := w.heap.size) _ (by decide) (by decide) (by decide) (by decide) (by decide) (by decide) (by decide)).mono ?_
  rintro en6 w6 ⟨v6, rfl, hr, hb⟩
  replace BEL := Aside0.mk (BEL.out.next hb)
  replace MC := Aside0.mk (MC.out.later hb)
  replace CZ := Aside0.mk (CZ.out.later hb)
  replace CO := Aside0.mk (CO.out.later hb)
  obtain ⟨n6, c6, rfl⟩ := hr.shape
  have C10 := Aside0.mk hr
  clear hr hb
  obtain ⟨wi3, hi3, hmc, hgi⟩ := ins_fact (k := 3) MC.out C10.out (by rfl)
  replace BEL := Aside0.mk (BEL.out.grown hgi LM.out)
  replace CZ := Aside0.mk (clo_map CZ.out MC.out hgi)
  replace CO := Aside0.mk (clo_map CO.out MC.out hgi)
  replace C10 := Aside0.mk (clo_map C10.out MC.out hgi)
  replace MC := Aside0.mk hmc
  clear hmc hgi
  obtain ⟨wi4, hi4, hmc, hgi⟩ := ins_fact (k := 4) MC.out CZ.out (by rfl)
  replace BEL := Aside0.mk (BEL.out.grown hgi LM.out)
  replace CZ := Aside0.mk (clo_map CZ.out MC.out hgi)
  replace CO := Aside0.mk (clo_map CO.out MC.out hgi)
  replace C10 := Aside0.mk (clo_map C10.out MC.out hgi)
  replace MC := Aside0.mk hmc
  clear hmc hgi
  go_wp2_with fail
  clear hi3 hi4
  clear C10
  go_at_call 54
  refine (power2_fn (b := w.heap.size) _ (by decide) (by decide) (by decide) (by decide) (by decide)).mono ?_
  rintro en7 w7 ⟨v7, rfl, hr, hb⟩
  replace BEL := Aside0.mk (BEL.out.next hb)
  replace MC := Aside0.mk (MC.out.later hb)
  replace CZ := Aside0.mk (CZ.out.later hb)
  replace CO := Aside0.mk (CO.out.later hb)
  obtain ⟨n7, c7, rfl⟩ := hr.shape
  have C12 := Aside0.mk hr
  clear hr hb
  obtain ⟨wi5, hi5, hmc, hgi⟩ := ins_fact (k := 5) MC.out C12.out (by rfl)
  replace BEL := Aside0.mk (BEL.out.grown hgi LM.out)
  replace CZ := Aside0.mk (clo_map CZ.out MC.out hgi)
  replace CO := Aside0.mk (clo_map CO.out MC.out hgi)
  replace C12 := Aside0.mk (clo_map C12.out MC.out hgi)
  replace MC := Aside0.mk hmc
  clear hmc hgi
  go_wp2_with fail
  clear hi5
  clear C12
  go_at_call 54
  refine (power10_fn (b := w.heap.size) _ (by decide) (by decide) (by decide) (by decide) (by decide) (by decide) (by decide)).mono ?_
  rintro en8 w8 ⟨v8, rfl, hr, hb⟩
  replace BEL := Aside0.mk (BEL.out.next hb)
  replace MC := Aside0.mk (MC.out.later hb)
  replace CZ := Aside0.mk (CZ.out.later hb)
  replace CO := Aside0.mk (CO.out.later hb)
  obtain ⟨n8, c8, rfl⟩ := hr.shape
  have C13 := Aside0.mk hr
  clear hr hb
  obtain ⟨wi6, hi6, hmc, hgi⟩ := ins_fact (k := 6) MC.out C13.out (by rfl)
  replace BEL := Aside0.mk (BEL.out.grown hgi LM.out)
  replace CZ := Aside0.mk (clo_map CZ.out MC.out hgi)
  replace CO := Aside0.mk (clo_map CO.out MC.out hgi)
  replace C13 := Aside0.mk (clo_map C13.out MC.out hgi)
  replace MC := Aside0.mk hmc
  clear hmc hgi
  go_wp2_with fail
  clear hi6
  clear C13
  go_at_call 46
  refine (whole_any (0) _ (by decide) (by decide) (tab_below HT.out BEL.out.1)).mono ?_
  rintro en9 w9 ⟨v9, rfl, hr, hb⟩
  have hl := hr.lower (Nat.le_trans (Nat.le_add_right _ _) BEL.out.2)
  replace BEL := Aside0.mk (BEL.out.next hb)
  replace MC := Aside0.mk (MC.out.later hb)
  replace CZ := Aside0.mk (CZ.out.later hb)
  replace CO := Aside0.mk (CO.out.later hb)
  have T1 := Aside0.mk hl
  clear hr hb hl
  go_wp2_with fail
  go_at_call 53
  refine (at_fn (n := 1) _ T1.out (by decide)).mono ?_
  rintro en10 w10 ⟨v10, rfl, hr, hb⟩
  replace BEL := Aside0.mk (BEL.out.next hb)
  replace MC := Aside0.mk (MC.out.later hb)
  replace CZ := Aside0.mk (CZ.out.later hb)
  replace CO := Aside0.mk (CO.out.later hb)
  replace T1 := Aside0.mk (T1.out.below hb)
  obtain ⟨n10, c10, rfl⟩ := hr.shape
  have C15 := Aside0.mk hr
  clear hr hb
  clear T1
  obtain ⟨wi7, hi7, hmc, hgi⟩ := ins_fact (k := 7) MC.out C15.out (by rfl)
  replace BEL := Aside0.mk (BEL.out.grown hgi LM.out)
  replace CZ := Aside0.mk (clo_map CZ.out MC.out hgi)
  replace CO := Aside0.mk (clo_map CO.out MC.out hgi)
  replace C15 := Aside0.mk (clo_map C15.out MC.out hgi)
  replace MC := Aside0.mk hmc
  clear hmc hgi
  go_wp2_with fail
  clear hi7
  clear C15
  go_at_call 55
  refine (log2_fn (b := w.heap.size) (most := 0) _ (by decide) (by decide)).mono ?_
  rintro en11 w11 ⟨v11, rfl, hr, hb⟩
  replace BEL := Aside0.mk (BEL.out.next hb)
  replace MC := Aside0.mk (MC.out.later hb)
  replace CZ := Aside0.mk (CZ.out.later hb)
  replace CO := Aside0.mk (CO.out.later hb)
  obtain ⟨n11, c11, rfl⟩ := hr.shape
  have C16 := Aside0.mk hr
  clear hr hb
  obtain ⟨wi8, hi8, hmc, hgi⟩ := ins_fact (k := 8) MC.out C16.out (by rfl)
  replace BEL := Aside0.mk (BEL.out.grown hgi LM.out)
  replace CZ := Aside0.mk (clo_map CZ.out MC.out hgi)
  replace CO := Aside0.mk (clo_map CO.out MC.out hgi)
  replace C16 := Aside0.mk (clo_map C16.out MC.out hgi)
  replace MC := Aside0.mk hmc
  clear hmc hgi
  go_wp2_with fail
  clear hi8
  clear C16
  go_at_call 55
  refine (log10_fn (b := w.heap.size) (most := 22) _ (by decide) (by decide)).mono ?_
  rintro en12 w12 ⟨v12, rfl, hr, hb⟩
  replace BEL := Aside0.mk (BEL.out.next hb)
  replace MC := Aside0.mk (MC.out.later hb)
  replace CZ := Aside0.mk (CZ.out.later hb)
  replace CO := Aside0.mk (CO.out.later hb)
  obtain ⟨n12, c12, rfl⟩ := hr.shape
  have C17 := Aside0.mk hr
  clear hr hb
  obtain ⟨wi9, hi9, hmc, hgi⟩ := ins_fact (k := 9) MC.out C17.out (by rfl)
  replace BEL := Aside0.mk (BEL.out.grown hgi LM.out)
  replace CZ := Aside0.mk (clo_map CZ.out MC.out hgi)
  replace CO := Aside0.mk (clo_map CO.out MC.out hgi)
  replace C17 := Aside0.mk (clo_map C17.out MC.out hgi)
  replace MC := Aside0.mk hmc
  clear hmc hgi
  obtain ⟨wi10, hi10, hmc, hgi⟩ := ins_fact (k := 10) MC.out CZ.out (by rfl)
  replace BEL := Aside0.mk (BEL.out.grown hgi LM.out)
  replace CZ := Aside0.mk (clo_map CZ.out MC.out hgi)
  replace CO := Aside0.mk (clo_map CO.out MC.out hgi)
  replace C17 := Aside0.mk (clo_map C17.out MC.out hgi)
  replace MC := Aside0.mk hmc
  clear hmc hgi
  go_wp2_with fail
  clear hi9 hi10
  clear C17
  go_at_call 55
  refine (log2_fn (b := w.heap.size) (most := 0) _ (by decide) (by decide)).mono ?_
  rintro en13 w13 ⟨v13, rfl, hr, hb⟩
  replace BEL := Aside0.mk (BEL.out.next hb)
  replace MC := Aside0.mk (MC.out.later hb)
  replace CZ := Aside0.mk (CZ.out.later hb)
  replace CO := Aside0.mk (CO.out.later hb)
  obtain ⟨n13, c13, rfl⟩ := hr.shape
  have C19 := Aside0.mk hr
  clear hr hb
  obtain ⟨wi11, hi11, hmc, hgi⟩ := ins_fact (k := 11) MC.out C19.out (by rfl)
  replace BEL := Aside0.mk (BEL.out.grown hgi LM.out)
  replace CZ := Aside0.mk (clo_map CZ.out MC.out hgi)
  replace CO := Aside0.mk (clo_map CO.out MC.out hgi)
  replace C19 := Aside0.mk (clo_map C19.out MC.out hgi)
  replace MC := Aside0.mk hmc
  clear hmc hgi
  go_wp2_with fail
  clear hi11
  clear C19
  go_at_call 55
  refine (log10_fn (b := w.heap.size) (most := 16) _ (by decide) (by decide)).mono ?_
  rintro en14 w14 ⟨v14, rfl, hr, hb⟩
  replace BEL := Aside0.mk (BEL.out.next hb)
  replace MC := Aside0.mk (MC.out.later hb)
  replace CZ := Aside0.mk (CZ.out.later hb)
  replace CO := Aside0.mk (CO.out.later hb)
  obtain ⟨n14, c14, rfl⟩ := hr.shape
  have C20 := Aside0.mk hr
  clear hr hb
  obtain ⟨wi12, hi12, hmc, hgi⟩ := ins_fact (k := 12) MC.out C20.out (by rfl)
  replace BEL := Aside0.mk (BEL.out.grown hgi LM.out)
  replace CZ := Aside0.mk (clo_map CZ.out MC.out hgi)
  replace CO := Aside0.mk (clo_map CO.out MC.out hgi)
  replace C20 := Aside0.mk (clo_map C20.out MC.out hgi)
  replace MC := Aside0.mk hmc
  clear hmc hgi
  obtain ⟨wi13, hi13, hmc, hgi⟩ := ins_fact (k := 13) MC.out CZ.out (by rfl)
  replace BEL := Aside0.mk (BEL.out.grown hgi LM.out)
  replace CZ := Aside0.mk (clo_map CZ.out MC.out hgi)
  replace CO := Aside0.mk (clo_map CO.out MC.out hgi)
  replace C20 := Aside0.mk (clo_map C20.out MC.out hgi)
  replace MC := Aside0.mk hmc
  clear hmc hgi
  obtain ⟨wi14, hi14, hmc, hgi⟩ := ins_fact (k := 14) MC.out CO.out (by rfl)
  replace BEL := Aside0.mk (BEL.out.grown hgi LM.out)
  replace CZ := Aside0.mk (clo_map CZ.out MC.out hgi)
  replace CO := Aside0.mk (clo_map CO.out MC.out hgi)
  replace C20 := Aside0.mk (clo_map C20.out MC.out hgi)
  replace MC := Aside0.mk hmc
  clear hmc hgi
  obtain ⟨wi15, hi15, hmc, hgi⟩ := ins_fact (k := 15) MC.out CZ.out (by rfl)
  replace BEL := Aside0.mk (BEL.out.grown hgi LM.out)
  replace CZ := Aside0.mk (clo_map CZ.out MC.out hgi)
  replace CO := Aside0.mk (clo_map CO.out MC.out hgi)
  replace C20 := Aside0.mk (clo_map C20.out MC.out hgi)
  replace MC := Aside0.mk hmc
  clear hmc hgi
  go_wp2_with fail
  clear hi12 hi13 hi14 hi15
  clear C20
  go_at_call 56
  refine (turned_fn (b := w.heap.size) (K := sineK) _ sine_fn).mono ?_
  rintro en15 w15 ⟨v15, rfl, hr, hb⟩
  replace BEL := Aside0.mk (BEL.out.next hb)
  replace MC := Aside0.mk (MC.out.later hb)
  replace CZ := Aside0.mk (CZ.out.later hb)
  replace CO := Aside0.mk (CO.out.later hb)
  obtain ⟨n15, c15, rfl⟩ := hr.shape
  have C24 := Aside0.mk hr
  clear hr hb
  obtain ⟨wi16, hi16, hmc, hgi⟩ := ins_fact (k := 16) MC.out C24.out (by rfl)
  replace BEL := Aside0.mk (BEL.out.grown hgi LM.out)
  replace CZ := Aside0.mk (clo_map CZ.out MC.out hgi)
  replace CO := Aside0.mk (clo_map CO.out MC.out hgi)
  replace C24 := Aside0.mk (clo_map C24.out MC.out hgi)
  replace MC := Aside0.mk hmc
  clear hmc hgi
  go_wp2_with fail
  clear hi16
  clear C24
  go_at_call 56
  refine (turned_fn (b := w.heap.size) (K := cosineK) _ cosine_fn).mono ?_
  rintro en16 w16 ⟨v16, rfl, hr, hb⟩
  replace BEL := Aside0.mk (BEL.out.next hb)
  replace MC := Aside0.mk (MC.out.later hb)
  replace CZ := Aside0.mk (CZ.out.later hb)
  replace CO := Aside0.mk (CO.out.later hb)
  obtain ⟨n16, c16, rfl⟩ := hr.shape
  have C25 := Aside0.mk hr
  clear hr hb
  obtain ⟨wi17, hi17, hmc, hgi⟩ := ins_fact (k := 17) MC.out C25.out (by rfl)
  replace BEL := Aside0.mk (BEL.out.grown hgi LM.out)
  replace CZ := Aside0.mk (clo_map CZ.out MC.out hgi)
  replace CO := Aside0.mk (clo_map CO.out MC.out hgi)
  replace C25 := Aside0.mk (clo_map C25.out MC.out hgi)
  replace MC := Aside0.mk hmc
  clear hmc hgi
  go_wp2_with fail
  clear hi17
  clear C25
  go_at_call 56
  refine (turned_fn (b := w.heap.size) (K := tangentK) _ tangent_fn).mono ?_
  rintro en17 w17 ⟨v17, rfl, hr, hb⟩
  replace BEL := Aside0.mk (BEL.out.next hb)
  replace MC := Aside0.mk (MC.out.later hb)
  replace CZ := Aside0.mk (CZ.out.later hb)
  replace CO := Aside0.mk (CO.out.later hb)
  obtain ⟨n17, c17, rfl⟩ := hr.shape
  have C26 := Aside0.mk hr
  clear hr hb
  obtain ⟨wi18, hi18, hmc, hgi⟩ := ins_fact (k := 18) MC.out C26.out (by rfl)
  replace BEL := Aside0.mk (BEL.out.grown hgi LM.out)
  replace CZ := Aside0.mk (clo_map CZ.out MC.out hgi)
  replace CO := Aside0.mk (clo_map CO.out MC.out hgi)
  replace C26 := Aside0.mk (clo_map C26.out MC.out hgi)
  replace MC := Aside0.mk hmc
  clear hmc hgi
  obtain ⟨wi19, hi19, hmc, hgi⟩ := ins_fact (k := 19) MC.out CZ.out (by rfl)
  replace BEL := Aside0.mk (BEL.out.grown hgi LM.out)
  replace CZ := Aside0.mk (clo_map CZ.out MC.out hgi)
  replace CO := Aside0.mk (clo_map CO.out MC.out hgi)
  replace C26 := Aside0.mk (clo_map C26.out MC.out hgi)
  replace MC := Aside0.mk hmc
  clear hmc hgi
  go_wp2_with fail
  clear hi18 hi19
  clear C26
  go_at_call 46
  refine (whole_any (0) _ (by decide) (by decide) (tab_below HT.out BEL.out.1)).mono ?_
  rintro en18 w18 ⟨v18, rfl, hr, hb⟩
  have hl := hr.lower (Nat.le_trans (Nat.le_add_right _ _) BEL.out.2)
  replace BEL := Aside0.mk (BEL.out.next hb)
  replace MC := Aside0.mk (MC.out.later hb)
  replace CZ := Aside0.mk (CZ.out.later hb)
  replace CO := Aside0.mk (CO.out.later hb)
  have T1 := Aside0.mk hl
  clear hr hb hl
  go_wp2_with fail
  go_at_call 53
  refine (at_fn (n := 1) _ T1.out (by decide)).mono ?_
  rintro en19 w19 ⟨v19, rfl, hr, hb⟩
  replace BEL := Aside0.mk (BEL.out.next hb)
  replace MC := Aside0.mk (MC.out.later hb)
  replace CZ := Aside0.mk (CZ.out.later hb)
  replace CO := Aside0.mk (CO.out.later hb)
  replace T1 := Aside0.mk (T1.out.below hb)
  obtain ⟨n19, c19, rfl⟩ := hr.shape
  have C29 := Aside0.mk hr
  clear hr hb
  clear T1
  obtain ⟨wi20, hi20, hmc, hgi⟩ := ins_fact (k := 20) MC.out C29.out (by rfl)
  replace BEL := Aside0.mk (BEL.out.grown hgi LM.out)
  replace CZ := Aside0.mk (clo_map CZ.out MC.out hgi)
  replace CO := Aside0.mk (clo_map CO.out MC.out hgi)
  replace C29 := Aside0.mk (clo_map C29.out MC.out hgi)
  replace MC := Aside0.mk hmc
  clear hmc hgi
  obtain ⟨wi21, hi21, hmc, hgi⟩ := ins_fact (k := 21) MC.out CZ.out (by rfl)
  replace BEL := Aside0.mk (BEL.out.grown hgi LM.out)
  replace CZ := Aside0.mk (clo_map CZ.out MC.out hgi)
  replace CO := Aside0.mk (clo_map CO.out MC.out hgi)
  replace C29 := Aside0.mk (clo_map C29.out MC.out hgi)
  replace MC := Aside0.mk hmc
  clear hmc hgi
  go_wp2_with fail
  clear hi20 hi21
  clear C29
  go_at_call 47
  refine (part_any (1) 1 _ (by decide) (by decide) (by decide) (tab_below HT.out BEL.out.1)).mono ?_
  rintro en20 w20 ⟨v20, rfl, hr, hb⟩
  have hl := hr.lower (Nat.le_trans (Nat.le_add_right _ _) BEL.out.2)
  replace BEL := Aside0.mk (BEL.out.next hb)
  replace MC := Aside0.mk (MC.out.later hb)
  replace CZ := Aside0.mk (CZ.out.later hb)
  replace CO := Aside0.mk (CO.out.later hb)
  have T1 := Aside0.mk hl
  clear hr hb hl
  go_wp2_with fail
  go_at_call 53
  refine (at_fn (n := 1) _ T1.out (by decide)).mono ?_
  rintro en21 w21 ⟨v21, rfl, hr, hb⟩
  replace BEL := Aside0.mk (BEL.out.next hb)
  replace MC := Aside0.mk (MC.out.later hb)
  replace CZ := Aside0.mk (CZ.out.later hb)
  replace CO := Aside0.mk (CO.out.later hb)
  replace T1 := Aside0.mk (T1.out.below hb)
  obtain ⟨n21, c21, rfl⟩ := hr.shape
  have C33 := Aside0.mk hr
  clear hr hb
  clear T1
  go_wp2_with fail
  go_at_call 47
  refine (part_any (-1) 1 _ (by decide) (by decide) (by decide) (tab_below HT.out BEL.out.1)).mono ?_
  rintro en22 w22 ⟨v22, rfl, hr, hb⟩
  have hl := hr.lower (Nat.le_trans (Nat.le_add_right _ _) BEL.out.2)
  replace BEL := Aside0.mk (BEL.out.next hb)
  replace MC := Aside0.mk (MC.out.later hb)
  replace CZ := Aside0.mk (CZ.out.later hb)
  replace CO := Aside0.mk (CO.out.later hb)
  replace C33 := Aside0.mk (C33.out.later hb)
  have T1 := Aside0.mk hl
  clear hr hb hl
  go_wp2_with fail
  go_at_call 53
  refine (at_fn (n := -1) _ T1.out (by decide)).mono ?_
  rintro en23 w23 ⟨v23, rfl, hr, hb⟩
  replace BEL := Aside0.mk (BEL.out.next hb)
  replace MC := Aside0.mk (MC.out.later hb)
  replace CZ := Aside0.mk (CZ.out.later hb)
  replace CO := Aside0.mk (CO.out.later hb)
  replace C33 := Aside0.mk (C33.out.later hb)
  replace T1 := Aside0.mk (T1.out.below hb)
  obtain ⟨n23, c23, rfl⟩ := hr.shape
  have C35 := Aside0.mk hr
  clear hr hb
  clear T1
  go_wp2_with fail
  have HSL := Aside0.mk (blk_new w23 (.cells #[.func (.func n2) #[] c2, .func (.func n21) #[] c21, .func (.func n23) #[] c23] 55))
  replace BEL := Aside0.mk (BEL.out.next (below_alloc (Below.refl w23.heap.size w23) (.cells #[.func (.func n2) #[] c2, .func (.func n21) #[] c21, .func (.func n23) #[] c23] 55)))
  replace MC := Aside0.mk (MC.out.later (below_alloc (Below.refl w23.heap.size w23) (.cells #[.func (.func n2) #[] c2, .func (.func n21) #[] c21, .func (.func n23) #[] c23] 55)))
  replace CZ := Aside0.mk (CZ.out.later (below_alloc (Below.refl w23.heap.size w23) (.cells #[.func (.func n2) #[] c2, .func (.func n21) #[] c21, .func (.func n23) #[] c23] 55)))
  replace CO := Aside0.mk (CO.out.later (below_alloc (Below.refl w23.heap.size w23) (.cells #[.func (.func n2) #[] c2, .func (.func n21) #[] c21, .func (.func n23) #[] c23] 55)))
  replace C33 := Aside0.mk (C33.out.later (below_alloc (Below.refl w23.heap.size w23) (.cells #[.func (.func n2) #[] c2, .func (.func n21) #[] c21, .func (.func n23) #[] c23] 55)))
  replace C35 := Aside0.mk (C35.out.later (below_alloc (Below.refl w23.heap.size w23) (.cells #[.func (.func n2) #[] c2, .func (.func n21) #[] c21, .func (.func n23) #[] c23] 55)))
  go_at_call 60
  refine (first_fn _ HSL.out CZ.out C33.out C35.out).mono ?_
  rintro en24 w24 ⟨v24, rfl, hr, hb⟩
  replace BEL := Aside0.mk (BEL.out.next hb)
  replace MC := Aside0.mk (MC.out.later hb)
  replace CZ := Aside0.mk (CZ.out.later hb)
  replace CO := Aside0.mk (CO.out.later hb)
  replace C33 := Aside0.mk (C33.out.later hb)
  replace C35 := Aside0.mk (C35.out.later hb)
  obtain ⟨n24, c24, rfl⟩ := hr.shape
  have C37 := Aside0.mk hr
  clear hr hb
  clear HSL
  clear C33
  clear C35
  obtain ⟨wi22, hi22, hmc, hgi⟩ := ins_fact (k := 22) MC.out C37.out (by rfl)
  replace BEL := Aside0.mk (BEL.out.grown hgi LM.out)
  replace CZ := Aside0.mk (clo_map CZ.out MC.out hgi)
  replace CO := Aside0.mk (clo_map CO.out MC.out hgi)
  replace C37 := Aside0.mk (clo_map C37.out MC.out hgi)
  replace MC := Aside0.mk hmc
  clear hmc hgi
  go_wp2_with fail
  clear hi22
  clear C37
  go_at_call 46
  refine (whole_any (0) _ (by decide) (by decide) (tab_below HT.out BEL.out.1)).mono ?_
  rintro en25 w25 ⟨v25, rfl, hr, hb⟩
  have hl := hr.lower (Nat.le_trans (Nat.le_add_right _ _) BEL.out.2)
  replace BEL := Aside0.mk (BEL.out.next hb)
  replace MC := Aside0.mk (MC.out.later hb)
  replace CZ := Aside0.mk (CZ.out.later hb)
  replace CO := Aside0.mk (CO.out.later hb)
  have T1 := Aside0.mk hl
  clear hr hb hl
  go_wp2_with fail
  go_at_call 53
  refine (at_fn (n := 1) _ T1.out (by decide)).mono ?_
  rintro en26 w26 ⟨v26, rfl, hr, hb⟩
  replace BEL := Aside0.mk (BEL.out.next hb)
  replace MC := Aside0.mk (MC.out.later hb)
  replace CZ := Aside0.mk (CZ.out.later hb)
  replace CO := Aside0.mk (CO.out.later hb)
  replace T1 := Aside0.mk (T1.out.below hb)
  obtain ⟨n26, c26, rfl⟩ := hr.shape
  have C39 := Aside0.mk hr
  clear hr hb
  clear T1
  go_wp2_with fail
  go_at_call 47
  refine (part_any (1) 1 _ (by decide) (by decide) (by decide) (tab_below HT.out BEL.out.1)).mono ?_
  rintro en27 w27 ⟨v27, rfl, hr, hb⟩
  have hl := hr.lower (Nat.le_trans (Nat.le_add_right _ _) BEL.out.2)
  replace BEL := Aside0.mk (BEL.out.next hb)
  replace MC := Aside0.mk (MC.out.later hb)
  replace CZ := Aside0.mk (CZ.out.later hb)
  replace CO := Aside0.mk (CO.out.later hb)
  replace C39 := Aside0.mk (C39.out.later hb)
  have T1 := Aside0.mk hl
  clear hr hb hl
  go_wp2_with fail
  go_at_call 53
  refine (at_fn (n := 0) _ T1.out (by decide)).mono ?_
  rintro en28 w28 ⟨v28, rfl, hr, hb⟩
  replace BEL := Aside0.mk (BEL.out.next hb)
  replace MC := Aside0.mk (MC.out.later hb)
  replace CZ := Aside0.mk (CZ.out.later hb)
  replace CO := Aside0.mk (CO.out.later hb)
  replace C39 := Aside0.mk (C39.out.later hb)
  replace T1 := Aside0.mk (T1.out.below hb)
  obtain ⟨n28, c28, rfl⟩ := hr.shape
  have C41 := Aside0.mk hr
  clear hr hb
  clear T1
  go_wp2_with fail
  go_at_call 46
  refine (whole_any (1) _ (by decide) (by decide) (tab_below HT.out BEL.out.1)).mono ?_
  rintro en29 w29 ⟨v29, rfl, hr, hb⟩
  have hl := hr.lower (Nat.le_trans (Nat.le_add_right _ _) BEL.out.2)
  replace BEL := Aside0.mk (BEL.out.next hb)
  replace MC := Aside0.mk (MC.out.later hb)
  replace CZ := Aside0.mk (CZ.out.later hb)
  replace CO := Aside0.mk (CO.out.later hb)
  replace C39 := Aside0.mk (C39.out.later hb)
  replace C41 := Aside0.mk (C41.out.later hb)
  have T1 := Aside0.mk hl
  clear hr hb hl
  go_wp2_with fail
  go_at_call 53
  refine (at_fn (n := -1) _ T1.out (by decide)).mono ?_
  rintro en30 w30 ⟨v30, rfl, hr, hb⟩
  replace BEL := Aside0.mk (BEL.out.next hb)
  replace MC := Aside0.mk (MC.out.later hb)
  replace CZ := Aside0.mk (CZ.out.later hb)
  replace CO := Aside0.mk (CO.out.later hb)
  replace C39 := Aside0.mk (C39.out.later hb)
  replace C41 := Aside0.mk (C41.out.later hb)
  replace T1 := Aside0.mk (T1.out.below hb)
  obtain ⟨n30, c30, rfl⟩ := hr.shape
  have C43 := Aside0.mk hr
  clear hr hb
  clear T1
  go_wp2_with fail
  have HSL := Aside0.mk (blk_new w30 (.cells #[.func (.func n26) #[] c26, .func (.func n28) #[] c28, .func (.func n30) #[] c30] 55))
  replace BEL := Aside0.mk (BEL.out.next (below_alloc (Below.refl w30.heap.size w30) (.cells #[.func (.func n26) #[] c26, .func (.func n28) #[] c28, .func (.func n30) #[] c30] 55)))
  replace MC := Aside0.mk (MC.out.later (below_alloc (Below.refl w30.heap.size w30) (.cells #[.func (.func n26) #[] c26, .func (.func n28) #[] c28, .func (.func n30) #[] c30] 55)))
  replace CZ := Aside0.mk (CZ.out.later (below_alloc (Below.refl w30.heap.size w30) (.cells #[.func (.func n26) #[] c26, .func (.func n28) #[] c28, .func (.func n30) #[] c30] 55)))
  replace CO := Aside0.mk (CO.out.later (below_alloc (Below.refl w30.heap.size w30) (.cells #[.func (.func n26) #[] c26, .func (.func n28) #[] c28, .func (.func n30) #[] c30] 55)))
  replace C39 := Aside0.mk (C39.out.later (below_alloc (Below.refl w30.heap.size w30) (.cells #[.func (.func n26) #[] c26, .func (.func n28) #[] c28, .func (.func n30) #[] c30] 55)))
  replace C41 := Aside0.mk (C41.out.later (below_alloc (Below.refl w30.heap.size w30) (.cells #[.func (.func n26) #[] c26, .func (.func n28) #[] c28, .func (.func n30) #[] c30] 55)))
  replace C43 := Aside0.mk (C43.out.later (below_alloc (Below.refl w30.heap.size w30) (.cells #[.func (.func n26) #[] c26, .func (.func n28) #[] c28, .func (.func n30) #[] c30] 55)))
  go_at_call 60
  refine (first_fn _ HSL.out C39.out C41.out C43.out).mono ?_
  rintro en31 w31 ⟨v31, rfl, hr, hb⟩
  replace BEL := Aside0.mk (BEL.out.next hb)
  replace MC := Aside0.mk (MC.out.later hb)
  replace CZ := Aside0.mk (CZ.out.later hb)
  replace CO := Aside0.mk (CO.out.later hb)
  replace C39 := Aside0.mk (C39.out.later hb)
  replace C41 := Aside0.mk (C41.out.later hb)
  replace C43 := Aside0.mk (C43.out.later hb)
  obtain ⟨n31, c31, rfl⟩ := hr.shape
  have C45 := Aside0.mk hr
  clear hr hb
  clear HSL
  clear C39
  clear C41
  clear C43
  obtain ⟨wi23, hi23, hmc, hgi⟩ := ins_fact (k := 23) MC.out C45.out (by rfl)
  replace BEL := Aside0.mk (BEL.out.grown hgi LM.out)
  replace CZ := Aside0.mk (clo_map CZ.out MC.out hgi)
  replace CO := Aside0.mk (clo_map CO.out MC.out hgi)
  replace C45 := Aside0.mk (clo_map C45.out MC.out hgi)
  replace MC := Aside0.mk hmc
  clear hmc hgi
  go_wp2_with fail
  clear hi23
  clear C45
  go_at_call 47
  refine (part_any (1) 2 _ (by decide) (by decide) (by decide) (tab_below HT.out BEL.out.1)).mono ?_
  rintro en32 w32 ⟨v32, rfl, hr, hb⟩
  have hl := hr.lower (Nat.le_trans (Nat.le_add_right _ _) BEL.out.2)
  replace BEL := Aside0.mk (BEL.out.next hb)
  replace MC := Aside0.mk (MC.out.later hb)
  replace CZ := Aside0.mk (CZ.out.later hb)
  replace CO := Aside0.mk (CO.out.later hb)
  have T1 := Aside0.mk hl
  clear hr hb hl
  go_wp2_with fail
  go_at_call 53
  refine (at_fn (n := 1) _ T1.out (by decide)).mono ?_
  rintro en33 w33 ⟨v33, rfl, hr, hb⟩
  replace BEL := Aside0.mk (BEL.out.next hb)
  replace MC := Aside0.mk (MC.out.later hb)
  replace CZ := Aside0.mk (CZ.out.later hb)
  replace CO := Aside0.mk (CO.out.later hb)
  replace T1 := Aside0.mk (T1.out.below hb)
  obtain ⟨n33, c33, rfl⟩ := hr.shape
  have C48 := Aside0.mk hr
  clear hr hb
  clear T1
  go_wp2_with fail
  go_at_call 47
  refine (part_any (-1) 2 _ (by decide) (by decide) (by decide) (tab_below HT.out BEL.out.1)).mono ?_
  rintro en34 w34 ⟨v34, rfl, hr, hb⟩
  have hl := hr.lower (Nat.le_trans (Nat.le_add_right _ _) BEL.out.2)
  replace BEL := Aside0.mk (BEL.out.next hb)
  replace MC := Aside0.mk (MC.out.later hb)
  replace CZ := Aside0.mk (CZ.out.later hb)
  replace CO := Aside0.mk (CO.out.later hb)
  replace C48 := Aside0.mk (C48.out.later hb)
  have T1 := Aside0.mk hl
  clear hr hb hl
  go_wp2_with fail
  go_at_call 53
  refine (at_fn (n := -1) _ T1.out (by decide)).mono ?_
  rintro en35 w35 ⟨v35, rfl, hr, hb⟩
  replace BEL := Aside0.mk (BEL.out.next hb)
  replace MC := Aside0.mk (MC.out.later hb)
  replace CZ := Aside0.mk (CZ.out.later hb)
  replace CO := Aside0.mk (CO.out.later hb)
  replace C48 := Aside0.mk (C48.out.later hb)
  replace T1 := Aside0.mk (T1.out.below hb)
  obtain ⟨n35, c35, rfl⟩ := hr.shape
  have C50 := Aside0.mk hr
  clear hr hb
  clear T1
  go_wp2_with fail
  have HSL := Aside0.mk (blk_new w35 (.cells #[.func (.func n2) #[] c2, .func (.func n33) #[] c33, .func (.func n35) #[] c35] 55))
  replace BEL := Aside0.mk (BEL.out.next (below_alloc (Below.refl w35.heap.size w35) (.cells #[.func (.func n2) #[] c2, .func (.func n33) #[] c33, .func (.func n35) #[] c35] 55)))
  replace MC := Aside0.mk (MC.out.later (below_alloc (Below.refl w35.heap.size w35) (.cells #[.func (.func n2) #[] c2, .func (.func n33) #[] c33, .func (.func n35) #[] c35] 55)))
  replace CZ := Aside0.mk (CZ.out.later (below_alloc (Below.refl w35.heap.size w35) (.cells #[.func (.func n2) #[] c2, .func (.func n33) #[] c33, .func (.func n35) #[] c35] 55)))
  replace CO := Aside0.mk (CO.out.later (below_alloc (Below.refl w35.heap.size w35) (.cells #[.func (.func n2) #[] c2, .func (.func n33) #[] c33, .func (.func n35) #[] c35] 55)))
  replace C48 := Aside0.mk (C48.out.later (below_alloc (Below.refl w35.heap.size w35) (.cells #[.func (.func n2) #[] c2, .func (.func n33) #[] c33, .func (.func n35) #[] c35] 55)))
  replace C50 := Aside0.mk (C50.out.later (below_alloc (Below.refl w35.heap.size w35) (.cells #[.func (.func n2) #[] c2, .func (.func n33) #[] c33, .func (.func n35) #[] c35] 55)))
  go_at_call 60
  refine (first_fn _ HSL.out CZ.out C48.out C50.out).mono ?_
  rintro en36 w36 ⟨v36, rfl, hr, hb⟩
  replace BEL := Aside0.mk (BEL.out.next hb)
  replace MC := Aside0.mk (MC.out.later hb)
  replace CZ := Aside0.mk (CZ.out.later hb)
  replace CO := Aside0.mk (CO.out.later hb)
  replace C48 := Aside0.mk (C48.out.later hb)
  replace C50 := Aside0.mk (C50.out.later hb)
  obtain ⟨n36, c36, rfl⟩ := hr.shape
  have C52 := Aside0.mk hr
  clear hr hb
  clear HSL
  clear C48
  clear C50
  obtain ⟨wi24, hi24, hmc, hgi⟩ := ins_fact (k := 24) MC.out C52.out (by rfl)
  replace BEL := Aside0.mk (BEL.out.grown hgi LM.out)
  replace CZ := Aside0.mk (clo_map CZ.out MC.out hgi)
  replace CO := Aside0.mk (clo_map CO.out MC.out hgi)
  replace C52 := Aside0.mk (clo_map C52.out MC.out hgi)
  replace MC := Aside0.mk hmc
  clear hmc hgi
  obtain ⟨wi25, hi25, hmc, hgi⟩ := ins_fact (k := 25) MC.out CZ.out (by rfl)
  replace BEL := Aside0.mk (BEL.out.grown hgi LM.out)
  replace CZ := Aside0.mk (clo_map CZ.out MC.out hgi)
  replace CO := Aside0.mk (clo_map CO.out MC.out hgi)
  replace C52 := Aside0.mk (clo_map C52.out MC.out hgi)
  replace MC := Aside0.mk hmc
  clear hmc hgi
  obtain ⟨wi26, hi26, hmc, hgi⟩ := ins_fact (k := 26) MC.out CO.out (by rfl)
  replace BEL := Aside0.mk (BEL.out.grown hgi LM.out)
  replace CZ := Aside0.mk (clo_map CZ.out MC.out hgi)
  replace CO := Aside0.mk (clo_map CO.out MC.out hgi)
  replace C52 := Aside0.mk (clo_map C52.out MC.out hgi)
  replace MC := Aside0.mk hmc
  clear hmc hgi
  obtain ⟨wi27, hi27, hmc, hgi⟩ := ins_fact (k := 27) MC.out CZ.out (by rfl)
  replace BEL := Aside0.mk (BEL.out.grown hgi LM.out)
  replace CZ := Aside0.mk (clo_map CZ.out MC.out hgi)
  replace CO := Aside0.mk (clo_map CO.out MC.out hgi)
  replace C52 := Aside0.mk (clo_map C52.out MC.out hgi)
  replace MC := Aside0.mk hmc
  clear hmc hgi
  obtain ⟨wi28, hi28, hmc, hgi⟩ := ins_fact (k := 28) MC.out CZ.out (by rfl)
  replace BEL := Aside0.mk (BEL.out.grown hgi LM.out)
  replace CZ := Aside0.mk (clo_map CZ.out MC.out hgi)
  replace CO := Aside0.mk (clo_map CO.out MC.out hgi)
  replace C52 := Aside0.mk (clo_map C52.out MC.out hgi)
  replace MC := Aside0.mk hmc
  clear hmc hgi
  go_wp2_with fail
  clear hi24 hi25 hi26 hi27 hi28
  clear C52
  go_at_call 46
  refine (whole_any (0) _ (by decide) (by decide) (tab_below HT.out BEL.out.1)).mono ?_
  rintro en37 w37 ⟨v37, rfl, hr, hb⟩
  have hl := hr.lower (Nat.le_trans (Nat.le_add_right _ _) BEL.out.2)
  replace BEL := Aside0.mk (BEL.out.next hb)
  replace MC := Aside0.mk (MC.out.later hb)
  replace CZ := Aside0.mk (CZ.out.later hb)
  replace CO := Aside0.mk (CO.out.later hb)
  have T1 := Aside0.mk hl
  clear hr hb hl
  go_wp2_with fail
  go_at_call 53
  refine (at_fn (n := 1) _ T1.out (by decide)).mono ?_
  rintro en38 w38 ⟨v38, rfl, hr, hb⟩
  replace BEL := Aside0.mk (BEL.out.next hb)
  replace MC := Aside0.mk (MC.out.later hb)
  replace CZ := Aside0.mk (CZ.out.later hb)
  replace CO := Aside0.mk (CO.out.later hb)
  replace T1 := Aside0.mk (T1.out.below hb)
  obtain ⟨n38, c38, rfl⟩ := hr.shape
  have C58 := Aside0.mk hr
  clear hr hb
  clear T1
  obtain ⟨wi29, hi29, hmc, hgi⟩ := ins_fact (k := 29) MC.out C58.out (by rfl)
  replace BEL := Aside0.mk (BEL.out.grown hgi LM.out)
  replace CZ := Aside0.mk (clo_map CZ.out MC.out hgi)
  replace CO := Aside0.mk (clo_map CO.out MC.out hgi)
  replace C58 := Aside0.mk (clo_map C58.out MC.out hgi)
  replace MC := Aside0.mk hmc
  clear hmc hgi
  obtain ⟨wi30, hi30, hmc, hgi⟩ := ins_fact (k := 30) MC.out CZ.out (by rfl)
  replace BEL := Aside0.mk (BEL.out.grown hgi LM.out)
  replace CZ := Aside0.mk (clo_map CZ.out MC.out hgi)
  replace CO := Aside0.mk (clo_map CO.out MC.out hgi)
  replace C58 := Aside0.mk (clo_map C58.out MC.out hgi)
  replace MC := Aside0.mk hmc
  clear hmc hgi
  go_wp2_with fail
  clear hi29 hi30
  clear C58
  go_ret
  exact ⟨_, rfl, MC.out, BEL.out.1⟩
end Go.Proofs.YtgpjplelgffocaaDoor

namespace Go.Proofs.YtgpjplelgffocaaDoor
open Go.RowKit Go.Proofs.YtgpjplelgffocaaDoorW.PrintWords Limb
set_option linter.unusedVariables false
set_option linter.unusedSimpArgs false

/-- Whether a function has a real value at a number, in units of 2^-1074. -/
def insideF (f : Nat) (z : Int) : Bool :=
  if f = 7 ∨ f = 8 ∨ f = 9 then decide (0 < z)
  else if f = 10 ∨ f = 11 ∨ f = 12 then decide (-1 * 2 ^ 1074 < z)
  else if f = 18 then (!decide (z - nearF z 1072 * 2 ^ 1073 = 0) || (Int.tmod (nearF z 1072 % 4) 2 == 0))
  else if f = 19 ∨ f = 20 ∨ f = 22 ∨ f = 23 then decide ((z.natAbs : Int) ≤ 1 * 2 ^ 1074)
  else if f = 29 then decide (1 * 2 ^ 1074 ≤ z)
  else if f = 30 then decide ((z.natAbs : Int) < 1 * 2 ^ 1074)
  else true
theorem cmpZ_dle (y z : Int) : decide (cmpZ y z ≤ 0) = decide (y ≤ z) := by
  unfold cmpZ
  by_cases h : y ≤ z
  · rw [decide_eq_true h]; repeat' split
    all_goals first | rfl | omega
  · rw [decide_eq_false h]; repeat' split
    all_goals first | rfl | omega
theorem cmpZ_dge (y z : Int) : decide (0 ≤ cmpZ y z) = decide (z ≤ y) := by
  unfold cmpZ
  by_cases h : z ≤ y
  · rw [decide_eq_true h]; repeat' split
    all_goals first | rfl | omega
  · rw [decide_eq_false h]; repeat' split
    all_goals first | rfl | omega

set_option maxRecDepth 100000 in
set_option maxHeartbeats 8000000 in
theorem inside_a {f : Nat} (hf : f = 7 ∨ f = 8 ∨ f = 9) {v : Value} {z : Int} {w : World} (h : CDy w v z (-1074)) (hz : z.natAbs < 2 ^ 2098) (hT : TabAt 0 Lib.deBruijn64tab w) :
    Calls Tryd.prog 52 #[.int .u8 f, v] w fun en w' => en = .returned (.bool (decide (0 < z))) ∧ Below w.heap.size w w' := by
  obtain ⟨b0, A, n0, c, x0, rfl⟩ := h.ex
  have HT := Aside0.mk hT
  have HCD := Aside0.mk h
  have OZ := Aside0.mk (ok_z hz)
  have HS := Aside0.mk (sgn_pos z)
  obtain ⟨q, hq⟩ : ∃ q, decide (0 < z) = q := ⟨_, rfl⟩
  rw [hq] at HS ⊢
  clear h hz hT hq
  rcases hf with rfl | rfl | rfl
  all_goals (
    go_enter Tryd.func52, Tryd.ntmps52
    have BEL : Aside0 (BelN w 1 (w.alloc (.cells #[.bool b0, .slice A n0 c, .int .i64 x0] 27))) := ⟨((BelN.zero w).alloc _).less (by decide)⟩
    have X0 : Aside0 ((w.alloc (.cells #[.bool b0, .slice A n0 c, .int .i64 x0] 27)).heap[w.heap.size]? = some (.cells #[.bool b0, .slice A n0 c, .int .i64 x0] 27 (0, 0))) := ⟨by have h := blk_new w (.cells #[.bool b0, .slice A n0 c, .int .i64 x0] 27); exact h⟩
    obtain ⟨q0, q0'⟩ := box_cell X0.out 0 rfl
    obtain ⟨q1, q1'⟩ := box_cell X0.out 1 rfl
    obtain ⟨q2, q2'⟩ := box_cell X0.out 2 rfl
    go_wp2_with fail
    clear q0 q0' q1 q1' q2 q2'
    go_at_call 45
    refine (sign_ok (HCD.out.below BEL.out.1) OZ.out).mono ?_
    rintro en1 w1 ⟨rfl, hb⟩
    replace BEL := Aside0.mk (BEL.out.next hb)
    replace X0 := Aside0.mk (blk_below X0.out hb)
    clear hb
    have hs := HS.out
    go_wp2_with fail
    go_ret
    exact ⟨rfl, BEL.out.1⟩)

set_option maxRecDepth 100000 in
set_option maxHeartbeats 8000000 in
theorem inside_b {f : Nat} (hf : f = 10 ∨ f = 11 ∨ f = 12) {v : Value} {z : Int} {w : World} (h : CDy w v z (-1074)) (hz : z.natAbs < 2 ^ 2098) (hT : TabAt 0 Lib.deBruijn64tab w) :
    Calls Tryd.prog 52 #[.int .u8 f, v] w fun en w' => en = .returned (.bool (decide (-1 * 2 ^ 1074 < z))) ∧ Below w.heap.size w w' := by
  obtain ⟨b0, A, n0, c, x0, rfl⟩ := h.ex
  have HT := Aside0.mk hT
  have HCD := Aside0.mk h
  have OZ := Aside0.mk (ok_z hz)
  have OM := Aside0.mk (Ok.of (e := -1074) _ (sm_mul (a := -1) (n := 2) (k := 1074) (by decide)) (by decide) (by decide) (by decide))
  obtain ⟨M, hM⟩ : ∃ M : Int, M = -1 * 2 ^ 1074 := ⟨_, rfl⟩
  have HP := Aside0.mk (fun (v : Value) (b : Nat) (W : World) (h : PDy W b v (-1) 0) => (by
    have q := PDy.scale (e := -1074) 1074 h
    rw [← hM] at q; exact q : PDy W b v M (-1074)))
  rw [← hM] at OM ⊢
  obtain ⟨q, hq⟩ : ∃ q, decide (M < z) = q := ⟨_, rfl⟩
  have HC : Aside0 (decide (0 < cmpZ z M) = q) := ⟨by rw [← hq]; exact cmpZ_dgt z M⟩
  rw [hq]
  clear h hz hT hM hq
  rcases hf with rfl | rfl | rfl
  all_goals (
    go_enter Tryd.func52, Tryd.ntmps52
    have BEL : Aside0 (BelN w 1 (w.alloc (.cells #[.bool b0, .slice A n0 c, .int .i64 x0] 27))) := ⟨((BelN.zero w).alloc _).less (by decide)⟩
    have X0 : Aside0 ((w.alloc (.cells #[.bool b0, .slice A n0 c, .int .i64 x0] 27)).heap[w.heap.size]? = some (.cells #[.bool b0, .slice A n0 c, .int .i64 x0] 27 (0, 0))) := ⟨by have h := blk_new w (.cells #[.bool b0, .slice A n0 c, .int .i64 x0] 27); exact h⟩
    go_upto_region 9 with fail
    obtain ⟨GM, hGM⟩ : ∃ G : (Nat → Prop) → (Nat → Value) → World → Prop, G = fun L v W => BelN w 1 W ∧ W.heap[w.heap.size]? = some (.cells #[.bool b0, .slice A n0 c, .int .i64 x0] 27 (0, 0)) ∧ (L 0 → (v 0) = .agg #[.bool b0, .slice A n0 c, .int .i64 x0]) ∧ (L 1 → PDy W w.heap.size (v 1) M (-1074)) ∧ (L 2 → (v 2) = .int .i64 (cmpZ z M)) ∧ (L 3 → (v 3) = .bool q) ∧ (L 4 → (v 4) = .bool q) := ⟨_, rfl⟩
    refine wp_region_slotsV [18, 19, 20, 21, 4] (by kernel_rfl) (by kernel_rfl) (G := GM) ?h0M ?hstepM ?hendM
    case h0M =>
      intro v; rw [hGM]
      exact ⟨BEL.out.next (below_drew (Below.refl _ _)), blk_drew X0.out, fun h => h.elim, fun h => h.elim, fun h => h.elim, fun h => h.elim, fun h => h.elim⟩
    case hstepM =>
      intro k o ho v W L hGv hnk haft hcl K hK
      rw [hGM] at hGv
      obtain ⟨hB, hb0, f0, f1, f2, f3, f4⟩ := hGv
      rcases k with _ | _ | _ | _ | _ | k
      all_goals first
        | (cases ho; done)
        | (obtain rfl := (Option.some.inj ho).symm
           clear ho
           rw [if_pos (by rfl)]
           simp only [setAll, List.setIfInBounds_toArray, List.set_cons_zero, List.set_cons_succ, List.set_nil, List.getElem_toArray, List.getElem_cons_zero, List.getElem_cons_succ, Nat.reduceAdd] at haft hK ⊢)
      case zero =>
        have cc0 := (box_cell (v := .bool b0) hb0 0 rfl).1
        have cc1 := (box_cell (v := .slice A n0 c) hb0 1 rfl).1
        have cc2 := (box_cell (v := .int .i64 x0) hb0 2 rfl).1
        have hb := Below.refl W.heap.size W
        have key := hK.out (.agg #[.bool b0, .slice A n0 c, .int .i64 x0]) W (by rw [hGM]; exact ⟨hB.next hb, blk_below hb0 hb, fun _ => by rw [upd_eq], (kd f1 (by decide) hb), (kv f2 (by decide)), (kv f3 (by decide)), (kv f4 (by decide))⟩)
        clear hb0 f0 f1 f2 f3 f4 hb hK
        go_simp
        simpa [upd] using key
      case succ.zero =>
        have HALL := Aside0.mk (And.intro hK (And.intro hB (And.intro hb0 ( And.intro f0 ( And.intro f1 ( And.intro f2 ( And.intro f3 ( And.intro f4 (True.intro)))))))))
        clear hK hb0 f0 f1 f2 f3 f4
        go_simp
        go_at_call 68
        refine (pint_dy (-1) _ (by decide) (by decide) (tab_below HT.out hB.1)).mono ?_
        rintro en w4 ⟨v1, rfl, hr, hb⟩
        obtain ⟨hK, hB, hb0, f0, f1, f2, f3, f4, _⟩ := HALL.out
        have key := hK.out (v1) w4 (by rw [hGM]; exact ⟨hB.next hb, blk_below hb0 hb, (kv f0 (by decide)), fun _ => by rw [upd_eq]; exact (HP.out _ _ _ hr).lower (Nat.le_trans (Nat.le_add_right _ _) hB.2), (kv f2 (by decide)), (kv f3 (by decide)), (kv f4 (by decide))⟩)
        clear hb0 f0 f1 f2 f3 f4 hK HALL
        simpa [upd] using key
      case succ.succ.zero =>
        have d0 := f0 (haft { on := 0, ground := .data } (by simp) rfl)
        have D0 := d0
        have d1 := f1 (haft { on := 1, ground := .data } (by simp) rfl)
        have D1 := d1
        have HALL := Aside0.mk (And.intro hK (And.intro hB (And.intro hb0 ( And.intro f0 ( And.intro f1 ( And.intro f2 ( And.intro f3 ( And.intro f4 (True.intro)))))))))
        clear hK hb0 f0 f1 f2 f3 f4
        go_simp
        go_at_call 48
        refine (cmp_ok (HCD.out.below hB.1) d1.c OZ.out OM.out (tab_below HT.out hB.1)).mono ?_
        rintro en w4 ⟨rfl, hb⟩
        obtain ⟨hK, hB, hb0, f0, f1, f2, f3, f4, _⟩ := HALL.out
        have key := hK.out (.int .i64 (cmpZ z M)) w4 (by rw [hGM]; exact ⟨hB.next hb, blk_below hb0 hb, (kv f0 (by decide)), (kd f1 (by decide) hb), fun _ => by rw [upd_eq], (kv f3 (by decide)), (kv f4 (by decide))⟩)
        clear hb0 f0 f1 f2 f3 f4 hK HALL
        simpa [upd, D0] using key
      case succ.succ.succ.zero =>
        have d2 := f2 (haft { on := 2, ground := .data } (by simp) rfl)
        have D2 := d2
        have hcq := HC.out
        have hb := Below.refl W.heap.size W
        have key := hK.out (.bool q) W (by rw [hGM]; exact ⟨hB.next hb, blk_below hb0 hb, (kv f0 (by decide)), (kd f1 (by decide) hb), (kv f2 (by decide)), fun _ => by rw [upd_eq], (kv f4 (by decide))⟩)
        clear hb0 f0 f1 f2 f3 f4 hb hK
        go_simp
        simpa [upd, D2] using key
      case succ.succ.succ.succ.zero =>
        have d3 := f3 (haft { on := 3, ground := .data } (by simp) rfl)
        have D3 := d3
        have hb := Below.refl W.heap.size W
        have key := hK.out (.bool q) W (by rw [hGM]; exact ⟨hB.next hb, blk_below hb0 hb, (kv f0 (by decide)), (kd f1 (by decide) hb), (kv f2 (by decide)), (kv f3 (by decide)), fun _ => by rw [upd_eq]⟩)
        clear hb0 f0 f1 f2 f3 f4 hb hK
        go_simp
        simpa [upd, D3] using key
    case hendM =>
      intro v W L0 hall hGv
      rw [hGM] at hGv
      obtain ⟨hB, hb0, f0, f1, f2, f3, f4⟩ := hGv
      have d4 := f4 (hall 4 (by decide))
      replace BEL := Aside0.mk hB
      clear hall hB hb0 f0 f1 f2 f3 f4
      simp only [setAll, List.setIfInBounds_toArray, List.set_cons_zero, List.set_cons_succ, Nat.reduceAdd, d4]
      clear d4
      go_wp2
      go_ret
      exact ⟨rfl, BEL.out.1⟩)

set_option maxRecDepth 100000 in
set_option maxHeartbeats 8000000 in
theorem inside_e {f : Nat} (hf : f = 29) {v : Value} {z : Int} {w : World} (h : CDy w v z (-1074)) (hz : z.natAbs < 2 ^ 2098) (hT : TabAt 0 Lib.deBruijn64tab w) :
    Calls Tryd.prog 52 #[.int .u8 f, v] w fun en w' => en = .returned (.bool (decide (1 * 2 ^ 1074 ≤ z))) ∧ Below w.heap.size w w' := by
  obtain ⟨b0, A, n0, c, x0, rfl⟩ := h.ex
  have HT := Aside0.mk hT
  have HCD := Aside0.mk h
  have OZ := Aside0.mk (ok_z hz)
  have OM := Aside0.mk (Ok.of (e := -1074) _ (sm_mul (a := 1) (n := 2) (k := 1074) (by decide)) (by decide) (by decide) (by decide))
  obtain ⟨M, hM⟩ : ∃ M : Int, M = 1 * 2 ^ 1074 := ⟨_, rfl⟩
  have HP := Aside0.mk (fun (v : Value) (b : Nat) (W : World) (h : PDy W b v (1) 0) => (by
    have q := PDy.scale (e := -1074) 1074 h
    rw [← hM] at q; exact q : PDy W b v M (-1074)))
  rw [← hM] at OM ⊢
  obtain ⟨q, hq⟩ : ∃ q, decide (M ≤ z) = q := ⟨_, rfl⟩
  have HC : Aside0 (decide (0 ≤ cmpZ z M) = q) := ⟨by rw [← hq]; exact cmpZ_dge z M⟩
  rw [hq]
  clear h hz hT hM hq
  rcases hf with rfl
  all_goals (
    go_enter Tryd.func52, Tryd.ntmps52
    have BEL : Aside0 (BelN w 1 (w.alloc (.cells #[.bool b0, .slice A n0 c, .int .i64 x0] 27))) := ⟨((BelN.zero w).alloc _).less (by decide)⟩
    have X0 : Aside0 ((w.alloc (.cells #[.bool b0, .slice A n0 c, .int .i64 x0] 27)).heap[w.heap.size]? = some (.cells #[.bool b0, .slice A n0 c, .int .i64 x0] 27 (0, 0))) := ⟨by have h := blk_new w (.cells #[.bool b0, .slice A n0 c, .int .i64 x0] 27); exact h⟩
    go_upto_region 19 with fail
    obtain ⟨GM, hGM⟩ : ∃ G : (Nat → Prop) → (Nat → Value) → World → Prop, G = fun L v W => BelN w 1 W ∧ W.heap[w.heap.size]? = some (.cells #[.bool b0, .slice A n0 c, .int .i64 x0] 27 (0, 0)) ∧ (L 0 → (v 0) = .agg #[.bool b0, .slice A n0 c, .int .i64 x0]) ∧ (L 1 → PDy W w.heap.size (v 1) M (-1074)) ∧ (L 2 → (v 2) = .int .i64 (cmpZ z M)) ∧ (L 3 → (v 3) = .bool q) ∧ (L 4 → (v 4) = .bool q) := ⟨_, rfl⟩
    refine wp_region_slotsV [48, 49, 50, 51, 4] (by kernel_rfl) (by kernel_rfl) (G := GM) ?h0M ?hstepM ?hendM
    case h0M =>
      intro v; rw [hGM]
      exact ⟨BEL.out.next (below_drew (Below.refl _ _)), blk_drew X0.out, fun h => h.elim, fun h => h.elim, fun h => h.elim, fun h => h.elim, fun h => h.elim⟩
    case hstepM =>
      intro k o ho v W L hGv hnk haft hcl K hK
      rw [hGM] at hGv
      obtain ⟨hB, hb0, f0, f1, f2, f3, f4⟩ := hGv
      rcases k with _ | _ | _ | _ | _ | k
      all_goals first
        | (cases ho; done)
        | (obtain rfl := (Option.some.inj ho).symm
           clear ho
           rw [if_pos (by rfl)]
           simp only [setAll, List.setIfInBounds_toArray, List.set_cons_zero, List.set_cons_succ, List.set_nil, List.getElem_toArray, List.getElem_cons_zero, List.getElem_cons_succ, Nat.reduceAdd] at haft hK ⊢)
      case zero =>
        have cc0 := (box_cell (v := .bool b0) hb0 0 rfl).1
        have cc1 := (box_cell (v := .slice A n0 c) hb0 1 rfl).1
        have cc2 := (box_cell (v := .int .i64 x0) hb0 2 rfl).1
        have hb := Below.refl W.heap.size W
        have key := hK.out (.agg #[.bool b0, .slice A n0 c, .int .i64 x0]) W (by rw [hGM]; exact ⟨hB.next hb, blk_below hb0 hb, fun _ => by rw [upd_eq], (kd f1 (by decide) hb), (kv f2 (by decide)), (kv f3 (by decide)), (kv f4 (by decide))⟩)
        clear hb0 f0 f1 f2 f3 f4 hb hK
        go_simp
        simpa [upd] using key
      case succ.zero =>
        have HALL := Aside0.mk (And.intro hK (And.intro hB (And.intro hb0 ( And.intro f0 ( And.intro f1 ( And.intro f2 ( And.intro f3 ( And.intro f4 (True.intro)))))))))
        clear hK hb0 f0 f1 f2 f3 f4
        go_simp
        go_at_call 68
        refine (pint_dy (1) _ (by decide) (by decide) (tab_below HT.out hB.1)).mono ?_
        rintro en w4 ⟨v1, rfl, hr, hb⟩
        obtain ⟨hK, hB, hb0, f0, f1, f2, f3, f4, _⟩ := HALL.out
        have key := hK.out (v1) w4 (by rw [hGM]; exact ⟨hB.next hb, blk_below hb0 hb, (kv f0 (by decide)), fun _ => by rw [upd_eq]; exact (HP.out _ _ _ hr).lower (Nat.le_trans (Nat.le_add_right _ _) hB.2), (kv f2 (by decide)), (kv f3 (by decide)), (kv f4 (by decide))⟩)
        clear hb0 f0 f1 f2 f3 f4 hK HALL
        simpa [upd] using key
      case succ.succ.zero =>
        have d0 := f0 (haft { on := 0, ground := .data } (by simp) rfl)
        have D0 := d0
        have d1 := f1 (haft { on := 1, ground := .data } (by simp) rfl)
        have D1 := d1
        have HALL := Aside0.mk (And.intro hK (And.intro hB (And.intro hb0 ( And.intro f0 ( And.intro f1 ( And.intro f2 ( And.intro f3 ( And.intro f4 (True.intro)))))))))
        clear hK hb0 f0 f1 f2 f3 f4
        go_simp
        go_at_call 48
        refine (cmp_ok (HCD.out.below hB.1) d1.c OZ.out OM.out (tab_below HT.out hB.1)).mono ?_
        rintro en w4 ⟨rfl, hb⟩
        obtain ⟨hK, hB, hb0, f0, f1, f2, f3, f4, _⟩ := HALL.out
        have key := hK.out (.int .i64 (cmpZ z M)) w4 (by rw [hGM]; exact ⟨hB.next hb, blk_below hb0 hb, (kv f0 (by decide)), (kd f1 (by decide) hb), fun _ => by rw [upd_eq], (kv f3 (by decide)), (kv f4 (by decide))⟩)
        clear hb0 f0 f1 f2 f3 f4 hK HALL
        simpa [upd, D0] using key
      case succ.succ.succ.zero =>
        have d2 := f2 (haft { on := 2, ground := .data } (by simp) rfl)
        have D2 := d2
        have hcq := HC.out
        have hb := Below.refl W.heap.size W
        have key := hK.out (.bool q) W (by rw [hGM]; exact ⟨hB.next hb, blk_below hb0 hb, (kv f0 (by decide)), (kd f1 (by decide) hb), (kv f2 (by decide)), fun _ => by rw [upd_eq], (kv f4 (by decide))⟩)
        clear hb0 f0 f1 f2 f3 f4 hb hK
        go_simp
        simpa [upd, D2] using key
      case succ.succ.succ.succ.zero =>
        have d3 := f3 (haft { on := 3, ground := .data } (by simp) rfl)
        have D3 := d3
        have hb := Below.refl W.heap.size W
        have key := hK.out (.bool q) W (by rw [hGM]; exact ⟨hB.next hb, blk_below hb0 hb, (kv f0 (by decide)), (kd f1 (by decide) hb), (kv f2 (by decide)), (kv f3 (by decide)), fun _ => by rw [upd_eq]⟩)
        clear hb0 f0 f1 f2 f3 f4 hb hK
        go_simp
        simpa [upd, D3] using key
    case hendM =>
      intro v W L0 hall hGv
      rw [hGM] at hGv
      obtain ⟨hB, hb0, f0, f1, f2, f3, f4⟩ := hGv
      have d4 := f4 (hall 4 (by decide))
      replace BEL := Aside0.mk hB
      clear hall hB hb0 f0 f1 f2 f3 f4
      simp only [setAll, List.setIfInBounds_toArray, List.set_cons_zero, List.set_cons_succ, Nat.reduceAdd, d4]
      clear d4
      go_wp2
      go_ret
      exact ⟨rfl, BEL.out.1⟩)

set_option maxRecDepth 100000 in
set_option maxHeartbeats 8000000 in
theorem inside_d {f : Nat} (hf : f = 19 ∨ f = 20 ∨ f = 22 ∨ f = 23) {v : Value} {z : Int} {w : World} (h : CDy w v z (-1074)) (hz : z.natAbs < 2 ^ 2098) (hT : TabAt 0 Lib.deBruijn64tab w) :
    Calls Tryd.prog 52 #[.int .u8 f, v] w fun en w' => en = .returned (.bool (decide ((z.natAbs : Int) ≤ 1 * 2 ^ 1074))) ∧ Below w.heap.size w w' := by
  obtain ⟨b0, A, n0, c, x0, rfl⟩ := h.ex
  have HT := Aside0.mk hT
  have HCD := Aside0.mk h
  have OZ := Aside0.mk (ok_z hz)
  have OM := Aside0.mk (Ok.of (e := -1074) _ (sm_mul (a := 1) (n := 2) (k := 1074) (by decide)) (by decide) (by decide) (by decide))
  obtain ⟨M, hM⟩ : ∃ M : Int, M = 1 * 2 ^ 1074 := ⟨_, rfl⟩
  have HP := Aside0.mk (fun (v : Value) (b : Nat) (W : World) (h : PDy W b v (1) 0) => (by
    have q := PDy.scale (e := -1074) 1074 h
    rw [← hM] at q; exact q : PDy W b v M (-1074)))
  rw [← hM] at OM ⊢
  have OA := Aside0.mk (ok_z (z := (z.natAbs : Int)) (by rw [Int.natAbs_natCast]; exact hz))
  obtain ⟨q, hq⟩ : ∃ q, decide ((z.natAbs : Int) ≤ M) = q := ⟨_, rfl⟩
  have HC : Aside0 (decide (cmpZ (z.natAbs : Int) M ≤ 0) = q) := ⟨by rw [← hq]; exact cmpZ_dle (z.natAbs : Int) M⟩
  rw [hq]
  clear h hz hT hM hq
  rcases hf with rfl | rfl | rfl | rfl
  all_goals (
    go_enter Tryd.func52, Tryd.ntmps52
    have BEL : Aside0 (BelN w 1 (w.alloc (.cells #[.bool b0, .slice A n0 c, .int .i64 x0] 27))) := ⟨((BelN.zero w).alloc _).less (by decide)⟩
    have X0 : Aside0 ((w.alloc (.cells #[.bool b0, .slice A n0 c, .int .i64 x0] 27)).heap[w.heap.size]? = some (.cells #[.bool b0, .slice A n0 c, .int .i64 x0] 27 (0, 0))) := ⟨by have h := blk_new w (.cells #[.bool b0, .slice A n0 c, .int .i64 x0] 27); exact h⟩
    obtain ⟨q0, q0'⟩ := box_cell X0.out 0 rfl
    obtain ⟨q1, q1'⟩ := box_cell X0.out 1 rfl
    obtain ⟨q2, q2'⟩ := box_cell X0.out 2 rfl
    go_wp2_with fail
    clear q0 q0' q1 q1' q2 q2'
    go_at_call 49
    refine (abs_ok (HCD.out.below BEL.out.1) OZ.out (tab_below HT.out BEL.out.1)).mono ?_
    rintro en1 w1 ⟨v1, rfl, hr, hb⟩
    replace BEL := Aside0.mk (BEL.out.next hb)
    replace X0 := Aside0.mk (blk_below X0.out hb)
    have P1 := Aside0.mk hr
    obtain ⟨b1, A1, n1, c1, x1, rfl⟩ := hr.ex
    clear hr hb
    go_wp2_with fail
    go_at_call 68
    refine (pint_dy 1 _ (by decide) (by decide) (tab_below HT.out BEL.out.1)).mono ?_
    rintro en2 w2 ⟨v2, rfl, hr, hb⟩
    replace BEL := Aside0.mk (BEL.out.next hb)
    replace X0 := Aside0.mk (blk_below X0.out hb)
    replace P1 := Aside0.mk (P1.out.below hb)
    have P2 := Aside0.mk hr
    obtain ⟨b2, A2, n2, c2, x2, rfl⟩ := hr.ex
    clear hr hb
    go_wp2_with fail
    go_at_call 48
    refine (cmp_ok P1.out.c (HP.out _ _ _ P2.out).c OA.out OM.out (tab_below HT.out BEL.out.1)).mono ?_
    rintro en3 w3 ⟨rfl, hb⟩
    replace BEL := Aside0.mk (BEL.out.next hb)
    replace X0 := Aside0.mk (blk_below X0.out hb)
    replace P1 := Aside0.mk (P1.out.below hb)
    replace P2 := Aside0.mk (P2.out.below hb)
    clear hb
    have hcq := HC.out
    go_wp2_with fail
    go_ret
    exact ⟨rfl, BEL.out.1⟩)

set_option maxRecDepth 100000 in
set_option maxHeartbeats 8000000 in
theorem inside_f {f : Nat} (hf : f = 30) {v : Value} {z : Int} {w : World} (h : CDy w v z (-1074)) (hz : z.natAbs < 2 ^ 2098) (hT : TabAt 0 Lib.deBruijn64tab w) :
    Calls Tryd.prog 52 #[.int .u8 f, v] w fun en w' => en = .returned (.bool (decide ((z.natAbs : Int) < 1 * 2 ^ 1074))) ∧ Below w.heap.size w w' := by
  obtain ⟨b0, A, n0, c, x0, rfl⟩ := h.ex
  have HT := Aside0.mk hT
  have HCD := Aside0.mk h
  have OZ := Aside0.mk (ok_z hz)
  have OM := Aside0.mk (Ok.of (e := -1074) _ (sm_mul (a := 1) (n := 2) (k := 1074) (by decide)) (by decide) (by decide) (by decide))
  obtain ⟨M, hM⟩ : ∃ M : Int, M = 1 * 2 ^ 1074 := ⟨_, rfl⟩
  have HP := Aside0.mk (fun (v : Value) (b : Nat) (W : World) (h : PDy W b v (1) 0) => (by
    have q := PDy.scale (e := -1074) 1074 h
    rw [← hM] at q; exact q : PDy W b v M (-1074)))
  rw [← hM] at OM ⊢
  have OA := Aside0.mk (ok_z (z := (z.natAbs : Int)) (by rw [Int.natAbs_natCast]; exact hz))
  obtain ⟨q, hq⟩ : ∃ q, decide ((z.natAbs : Int) < M) = q := ⟨_, rfl⟩
  have HC : Aside0 (decide (cmpZ (z.natAbs : Int) M < 0) = q) := ⟨by rw [← hq]; exact cmpZ_dlt (z.natAbs : Int) M⟩
  rw [hq]
  clear h hz hT hM hq
  rcases hf with rfl
  all_goals (
    go_enter Tryd.func52, Tryd.ntmps52
    have BEL : Aside0 (BelN w 1 (w.alloc (.cells #[.bool b0, .slice A n0 c, .int .i64 x0] 27))) := ⟨((BelN.zero w).alloc _).less (by decide)⟩
    have X0 : Aside0 ((w.alloc (.cells #[.bool b0, .slice A n0 c, .int .i64 x0] 27)).heap[w.heap.size]? = some (.cells #[.bool b0, .slice A n0 c, .int .i64 x0] 27 (0, 0))) := ⟨by have h := blk_new w (.cells #[.bool b0, .slice A n0 c, .int .i64 x0] 27); exact h⟩
    obtain ⟨q0, q0'⟩ := box_cell X0.out 0 rfl
    obtain ⟨q1, q1'⟩ := box_cell X0.out 1 rfl
    obtain ⟨q2, q2'⟩ := box_cell X0.out 2 rfl
    go_wp2_with fail
    clear q0 q0' q1 q1' q2 q2'
    go_at_call 49
    refine (abs_ok (HCD.out.below BEL.out.1) OZ.out (tab_below HT.out BEL.out.1)).mono ?_
    rintro en1 w1 ⟨v1, rfl, hr, hb⟩
    replace BEL := Aside0.mk (BEL.out.next hb)
    replace X0 := Aside0.mk (blk_below X0.out hb)
    have P1 := Aside0.mk hr
    obtain ⟨b1, A1, n1, c1, x1, rfl⟩ := hr.ex
    clear hr hb
    go_wp2_with fail
    go_at_call 68
    refine (pint_dy 1 _ (by decide) (by decide) (tab_below HT.out BEL.out.1)).mono ?_
    rintro en2 w2 ⟨v2, rfl, hr, hb⟩
    replace BEL := Aside0.mk (BEL.out.next hb)
    replace X0 := Aside0.mk (blk_below X0.out hb)
    replace P1 := Aside0.mk (P1.out.below hb)
    have P2 := Aside0.mk hr
    obtain ⟨b2, A2, n2, c2, x2, rfl⟩ := hr.ex
    clear hr hb
    go_wp2_with fail
    go_at_call 48
    refine (cmp_ok P1.out.c (HP.out _ _ _ P2.out).c OA.out OM.out (tab_below HT.out BEL.out.1)).mono ?_
    rintro en3 w3 ⟨rfl, hb⟩
    replace BEL := Aside0.mk (BEL.out.next hb)
    replace X0 := Aside0.mk (blk_below X0.out hb)
    replace P1 := Aside0.mk (P1.out.below hb)
    replace P2 := Aside0.mk (P2.out.below hb)
    clear hb
    have hcq := HC.out
    go_wp2_with fail
    go_ret
    exact ⟨rfl, BEL.out.1⟩)

set_option maxRecDepth 100000 in
set_option maxHeartbeats 8000000 in
theorem inside_c {f : Nat} (hf : f = 18) {v : Value} {z : Int} {w : World} (h : CDy w v z (-1074)) (hz : z.natAbs < 2 ^ 2098) (hT : TabAt 0 Lib.deBruijn64tab w) :
    Calls Tryd.prog 52 #[.int .u8 f, v] w fun en w' => en = .returned (.bool (!decide (z - nearF z 1072 * 2 ^ 1073 = 0) || (Int.tmod (nearF z 1072 % 4) 2 == 0))) ∧ Below w.heap.size w w' := by
  obtain ⟨b0, A, n0, c, x0, rfl⟩ := h.ex
  have HT := Aside0.mk hT
  have HCD := Aside0.mk h
  have OZ := Aside0.mk (ok_z hz)
  have QO := Aside0.mk (fun (W : World) (hb : Below w.heap.size w W) => spotOf_any (h.below hb) hz (tab_below hT hb))
  have OR := Aside0.mk (ok_r (left_small hz))
  have hk := mod4 (nearF z 1072)
  subst hf
  clear h hz hT
  generalize nearF z 1072 % 4 = k at *
  generalize z - nearF z 1072 * 2 ^ 1073 = r at *
  have hkw : wrap64 (k.tmod 2) = k.tmod 2 := by unfold wrap64; rcases hk with rfl | rfl | rfl | rfl <;> decide
  have HKW := Aside0.mk hkw
  obtain ⟨kev, hkev⟩ : ∃ q, (k.tmod 2 == 0) = q := ⟨_, rfl⟩
  have HKE := Aside0.mk hkev
  rw [hkev]
  clear hk hkw hkev
  go_enter Tryd.func52, Tryd.ntmps52
  have BEL : Aside0 (BelN w 1 (w.alloc (.cells #[.bool b0, .slice A n0 c, .int .i64 x0] 27))) := ⟨((BelN.zero w).alloc _).less (by decide)⟩
  have X0 : Aside0 ((w.alloc (.cells #[.bool b0, .slice A n0 c, .int .i64 x0] 27)).heap[w.heap.size]? = some (.cells #[.bool b0, .slice A n0 c, .int .i64 x0] 27 (0, 0))) := ⟨by have h := blk_new w (.cells #[.bool b0, .slice A n0 c, .int .i64 x0] 27); exact h⟩
  obtain ⟨q0, q0'⟩ := box_cell X0.out 0 rfl
  obtain ⟨q1, q1'⟩ := box_cell X0.out 1 rfl
  obtain ⟨q2, q2'⟩ := box_cell X0.out 2 rfl
  go_wp2_with fail
  clear q0 q0' q1 q1' q2 q2'
  go_at_call 74
  refine (QO.out _ BEL.out.1).mono ?_
  rintro en1 w1 ⟨v1, rfl, hr, hb⟩
  replace BEL := Aside0.mk (BEL.out.next hb)
  replace X0 := Aside0.mk (blk_below X0.out hb)
  have P1 := Aside0.mk hr
  obtain ⟨b1, A1, n1, c1, x1, rfl⟩ := hr.ex5
  clear hr hb
  have BELo := BEL
  go_wp2_with (replace BEL := Aside0.mk ((BEL.out.alloc (.cells #[.int .i64 0, .bool false, .slice none 0 0, .int .i64 0] 82)).less (j := 1) (by omega)); have HN := Aside0.mk (blk_new w1 (.cells #[.int .i64 0, .bool false, .slice none 0 0, .int .i64 0] 82)); have L_X0 := lt_blk X0.out; replace X0 := Aside0.mk (blk_alloc X0.out (.cells #[.int .i64 0, .bool false, .slice none 0 0, .int .i64 0] 82)); replace P1 := Aside0.mk (P1.out.below (below_alloc (Below.refl _ _) (.cells #[.int .i64 0, .bool false, .slice none 0 0, .int .i64 0] 82))); ((with_reducible refine gate_store (p := 5) rfl ?_); go_must (refine store_box 82 5 (.tmp 25) rfl rfl rfl (g := w1.heap.size) (e := 82) (.agg #[.int .i64 k, .bool b1, .slice A1 n1 c1, .int .i64 x1]) ([.int .i64 k, .bool b1, .slice A1 n1 c1, .int .i64 x1]) rfl rfl rfl info_spot ?b1 HN.out rfl ?_; (case b1 => intro q hq; simp at hq; rcases hq with rfl | rfl | rfl | rfl <;> rfl); intro wb hbx hgx; have HX := Aside0.mk hbx; have HG := Aside0.mk hgx; clear hbx hgx)); replace P1 := Aside0.mk (P1.out.grown_box HN.out (by decide) HG.out); have LB_XS := BELo.out.2; replace BEL := Aside0.mk (BEL.out.grown HG.out (Nat.le_trans (Nat.le_add_right _ _) LB_XS)); replace X0 := Aside0.mk (blk_grown X0.out HG.out (Nat.ne_of_lt L_X0)); have NE_X0_XS := Aside0.mk (Nat.ne_of_lt L_X0); clear L_X0; have LL_XS := Aside0.mk LB_XS; clear LB_XS; have XS := HX; clear HG HN HX; obtain ⟨q3, q3'⟩ := box_cell XS.out 0 rfl; obtain ⟨q4, q4'⟩ := box_cell XS.out 1 rfl; obtain ⟨q5, q5'⟩ := box_cell XS.out 2 rfl; obtain ⟨q6, q6'⟩ := box_cell XS.out 3 rfl)
  clear q3 q3' q4 q4' q5 q5' q6 q6'
  go_at_call 22
  refine (zero_ok P1.out.d.1.c OR.out).mono ?_
  rintro en2 w2 ⟨rfl, hb⟩
  replace BEL := Aside0.mk (BEL.out.next hb)
  replace X0 := Aside0.mk (blk_below X0.out hb)
  replace XS := Aside0.mk (blk_below XS.out hb)
  replace P1 := Aside0.mk (P1.out.below hb)
  clear hb
  by_cases hr : r = 0
  case neg =>
    have hd : decide (r = 0) = false := decide_eq_false hr
    clear hr
    obtain ⟨q7, q7'⟩ := box_cell XS.out 0 rfl
    obtain ⟨q8, q8'⟩ := box_cell XS.out 1 rfl
    obtain ⟨q9, q9'⟩ := box_cell XS.out 2 rfl
    obtain ⟨q10, q10'⟩ := box_cell XS.out 3 rfl
    go_wp2_with fail
    go_ret
    exact ⟨ret_bool (by rw [hd]; rfl), BEL.out.1⟩
  case pos =>
    have hd : decide (r = 0) = true := decide_eq_true hr
    have HR := Aside0.mk hr
    have hkw := HKW.out
    have hkev := HKE.out
    clear hr
    cases kev
    case true =>
      obtain ⟨q7, q7'⟩ := box_cell XS.out 0 rfl
      obtain ⟨q8, q8'⟩ := box_cell XS.out 1 rfl
      obtain ⟨q9, q9'⟩ := box_cell XS.out 2 rfl
      obtain ⟨q10, q10'⟩ := box_cell XS.out 3 rfl
      go_wp2_with fail
      go_ret
      exact ⟨ret_bool (by rw [hd]; rfl), BEL.out.1⟩
    case false =>
      obtain ⟨q7, q7'⟩ := box_cell XS.out 0 rfl
      obtain ⟨q8, q8'⟩ := box_cell XS.out 1 rfl
      obtain ⟨q9, q9'⟩ := box_cell XS.out 2 rfl
      obtain ⟨q10, q10'⟩ := box_cell XS.out 3 rfl
      go_wp2_with fail
      go_ret
      exact ⟨ret_bool (by rw [hd]; rfl), BEL.out.1⟩

set_option maxRecDepth 100000 in
set_option maxHeartbeats 8000000 in
theorem inside_g {f : Nat} (hf : ¬ f = 7 ∧ ¬ f = 8 ∧ ¬ f = 9 ∧ ¬ f = 10 ∧ ¬ f = 11 ∧ ¬ f = 12 ∧ ¬ f = 18 ∧ ¬ f = 19 ∧ ¬ f = 20 ∧ ¬ f = 22 ∧ ¬ f = 23 ∧ ¬ f = 29 ∧ ¬ f = 30) {v : Value} {z : Int} {w : World} (h : CDy w v z (-1074)) (hz : z.natAbs < 2 ^ 2098) (hT : TabAt 0 Lib.deBruijn64tab w) :
    Calls Tryd.prog 52 #[.int .u8 f, v] w fun en w' => en = .returned (.bool (true)) ∧ Below w.heap.size w w' := by
  obtain ⟨b0, A, n0, c, x0, rfl⟩ := h.ex
  have HT := Aside0.mk hT
  have HCD := Aside0.mk h
  have OZ := Aside0.mk (ok_z hz)
  have e7 : ((f : Int) == 7) = false := by simp; omega
  have e8 : ((f : Int) == 8) = false := by simp; omega
  have e9 : ((f : Int) == 9) = false := by simp; omega
  have e10 : ((f : Int) == 10) = false := by simp; omega
  have e11 : ((f : Int) == 11) = false := by simp; omega
  have e12 : ((f : Int) == 12) = false := by simp; omega
  have e18 : ((f : Int) == 18) = false := by simp; omega
  have e19 : ((f : Int) == 19) = false := by simp; omega
  have e20 : ((f : Int) == 20) = false := by simp; omega
  have e22 : ((f : Int) == 22) = false := by simp; omega
  have e23 : ((f : Int) == 23) = false := by simp; omega
  have e29 : ((f : Int) == 29) = false := by simp; omega
  have e30 : ((f : Int) == 30) = false := by simp; omega
  clear h hz hT hf
  go_enter Tryd.func52, Tryd.ntmps52
  have BEL : Aside0 (BelN w 1 (w.alloc (.cells #[.bool b0, .slice A n0 c, .int .i64 x0] 27))) := ⟨((BelN.zero w).alloc _).less (by decide)⟩
  have X0 : Aside0 ((w.alloc (.cells #[.bool b0, .slice A n0 c, .int .i64 x0] 27)).heap[w.heap.size]? = some (.cells #[.bool b0, .slice A n0 c, .int .i64 x0] 27 (0, 0))) := ⟨by have h := blk_new w (.cells #[.bool b0, .slice A n0 c, .int .i64 x0] 27); exact h⟩
  obtain ⟨q0, q0'⟩ := box_cell X0.out 0 rfl
  obtain ⟨q1, q1'⟩ := box_cell X0.out 1 rfl
  obtain ⟨q2, q2'⟩ := box_cell X0.out 2 rfl
  go_wp2_with fail
  go_ret
  exact ⟨rfl, BEL.out.1⟩

theorem inside_any {f : Nat} {v : Value} {z : Int} {w : World} (h : CDy w v z (-1074)) (hz : z.natAbs < 2 ^ 2098) (hT : TabAt 0 Lib.deBruijn64tab w) :
    Calls Tryd.prog 52 #[.int .u8 f, v] w fun en w' => en = .returned (.bool (insideF f z)) ∧ Below w.heap.size w w' := by
  unfold insideF
  by_cases h1 : f = 7 ∨ f = 8 ∨ f = 9
  · rw [if_pos h1]; exact inside_a h1 h hz hT
  rw [if_neg h1]
  by_cases h2 : f = 10 ∨ f = 11 ∨ f = 12
  · rw [if_pos h2]; exact inside_b h2 h hz hT
  rw [if_neg h2]
  by_cases h3 : f = 18
  · rw [if_pos h3]; exact inside_c h3 h hz hT
  rw [if_neg h3]
  by_cases h4 : f = 19 ∨ f = 20 ∨ f = 22 ∨ f = 23
  · rw [if_pos h4]; exact inside_d h4 h hz hT
  rw [if_neg h4]
  by_cases h5 : f = 29
  · rw [if_pos h5]; exact inside_e h5 h hz hT
  rw [if_neg h5]
  by_cases h6 : f = 30
  · rw [if_pos h6]; exact inside_f h6 h hz hT
  rw [if_neg h6]
  exact inside_g (by omega) h hz hT
end Go.Proofs.YtgpjplelgffocaaDoor

namespace Go.Proofs.YtgpjplelgffocaaDoor
open Go.RowKit Go.Proofs.YtgpjplelgffocaaDoorW.PrintWords Limb
set_option linter.unusedVariables false
set_option linter.unusedSimpArgs false

def finB (x : Nat) : Bool := decide (x % 9223372036854775808 < 9218868437227405312)
def errB (b : Bool) : Int := if b = true then 0 else 5
def fromV (x : Nat) : Int := if finB x = true then valI x else 0
theorem valI_small {x : Nat} (hf : x % 9223372036854775808 < 9218868437227405312) : (valI x).natAbs < 2 ^ 2098 := by
  unfold valI
  rw [sgn_abs]
  have h1 : (if x / 4503599627370496 % 2048 = 0 then x % 4503599627370496 else 4503599627370496 + x % 4503599627370496) < 2 ^ 53 := by split <;> omega
  have h2 : x / 4503599627370496 % 2048 - 1 ≤ 2045 := by omega
  generalize (if x / 4503599627370496 % 2048 = 0 then x % 4503599627370496 else 4503599627370496 + x % 4503599627370496) = a at h1
  generalize x / 4503599627370496 % 2048 - 1 = k at h2
  refine Nat.lt_of_lt_of_le (Nat.mul_lt_mul_of_pos_right h1 (Nat.two_pow_pos k)) ?_
  rw [← Nat.pow_add]
  exact pow_le2 (53 + k) 2098 (by omega)
theorem fromV_small (x : Nat) : (fromV x).natAbs < 2 ^ 2098 := by
  unfold fromV
  split
  · rename_i h; exact valI_small (of_decide_eq_true h)
  · show 0 < 2 ^ 2098
    exact Nat.two_pow_pos 2098
theorem from_one (x : Nat) (hx : x < 18446744073709551616) (w : World) (hT : TabAt 0 Lib.deBruijn64tab w) :
    Calls Tryd.prog 20 #[.int .u64 (x : Int)] w fun e w' => ∃ v, e = .returned (.tuple #[v, .int .i64 (errB (finB x))]) ∧ PDy w' w.heap.size v (fromV x) (-1074) ∧ Below w.heap.size w w' := by
  by_cases h : x % 9223372036854775808 < 9218868437227405312
  · have hb : finB x = true := decide_eq_true h
    unfold fromV errB
    rw [if_pos hb, if_pos hb]
    exact pfrom_any x hx h w hT
  · have hb : ¬ finB x = true := by unfold finB; rw [decide_eq_false h]; decide
    unfold fromV errB
    rw [if_neg hb, if_neg hb]
    exact (pfrom_none x hx h w).mono fun en w' q => ⟨_, q.1, PDy.zero _ _ _, q.2⟩
def isF (f : Nat) : Bool := decide (1 ≤ f ∧ f ≤ 30)
def domF (f x : Nat) : Bool := isF f && finB x && insideF f (fromV x)
theorem is_one (f : Nat) (hf : f < 256) (w : World) : Calls Tryd.prog 30 #[.int .u8 f] w fun en w' => en = .returned (.bool (isF f)) ∧ Below w.heap.size w w' := is_fn f hf w

set_option maxRecDepth 100000 in
set_option maxHeartbeats 8000000 in
theorem domain_any (f x : Nat) (hf : f < 256) (hx : x < 18446744073709551616) (w : World) (hT : TabAt 0 Lib.deBruijn64tab w) :
    Calls Tryd.prog 28 #[.int .u8 f, .int .u64 (x : Int)] w fun en w' => en = .returned (.bool (domF f x)) ∧ Below w.heap.size w w' := by
  have HT := Aside0.mk hT
  have HF := Aside0.mk hf
  have QFr := Aside0.mk (fun (W : World) (ht : TabAt 0 Lib.deBruijn64tab W) => from_one x hx W ht)
  have QIn := Aside0.mk (fun (v : Value) (W : World) (h : CDy W v (fromV x) (-1074)) (ht : TabAt 0 Lib.deBruijn64tab W) => inside_any (f := f) h (fromV_small x) ht)
  have HD := Aside0.mk (show domF f x = (isF f && finB x && insideF f (fromV x)) from rfl)
  obtain ⟨D, hD⟩ : ∃ D, D = domF f x := ⟨_, rfl⟩
  rw [← hD] at HD ⊢
  generalize fromV x = z at *
  generalize insideF f z = ins at *
  have QIs := Aside0.mk (fun (W : World) => is_one f hf W)
  clear hT hf hx hD
  generalize isF f = isf at *
  generalize finB x = fin at *
  go_enter Tryd.func28, Tryd.ntmps28
  have BEL := Aside0.mk (BelN.zero w)
  go_wp2_with fail
  go_at_call 20
  refine (QFr.out _ HT.out).mono ?_
  rintro en1 w1 ⟨v1, rfl, hr, hb⟩
  replace BEL := Aside0.mk (BEL.out.next hb)
  have P1 := Aside0.mk hr
  obtain ⟨b1, A1, n1, c1, x1, rfl⟩ := hr.ex
  clear hr hb
  have BELo := BEL
  go_wp2_with (replace BEL := Aside0.mk ((BEL.out.alloc (.cells #[.bool false, .slice none 0 0, .int .i64 0] 27)).less (j := 0) (by omega)); have HN := Aside0.mk (blk_new w1 (.cells #[.bool false, .slice none 0 0, .int .i64 0] 27)); replace P1 := Aside0.mk (P1.out.below (below_alloc (Below.refl _ _) (.cells #[.bool false, .slice none 0 0, .int .i64 0] 27))); ((with_reducible refine gate_store (p := 5) rfl ?_); go_must (refine store_box 27 5 (.tmp 10) rfl rfl rfl (g := w1.heap.size) (e := 27) (.agg #[.bool b1, .slice A1 n1 c1, .int .i64 x1]) ([.bool b1, .slice A1 n1 c1, .int .i64 x1]) rfl rfl rfl info_dyad ?b1 HN.out rfl ?_; (case b1 => intro q hq; simp at hq; rcases hq with rfl | rfl | rfl <;> rfl); intro wb hbx hgx; have HX := Aside0.mk hbx; have HG := Aside0.mk hgx; clear hbx hgx)); replace P1 := Aside0.mk (P1.out.grown_box HN.out (by decide) HG.out); have LB_XD := BELo.out.2; replace BEL := Aside0.mk (BEL.out.grown HG.out (Nat.le_trans (Nat.le_add_right _ _) LB_XD)); have LL_XD := Aside0.mk LB_XD; clear LB_XD; have XD := HX; clear HG HN HX)
  go_at_call 30
  refine (QIs.out _).mono ?_
  rintro en2 w2 ⟨rfl, hb⟩
  replace BEL := Aside0.mk (BEL.out.next hb)
  replace XD := Aside0.mk (blk_below XD.out hb)
  replace P1 := Aside0.mk (P1.out.below hb)
  clear hb
  cases isf
  case false =>
    go_wp2_with fail
    go_ret
    exact ⟨ret_bool (by rw [HD.out]; rfl), BEL.out.1⟩
  case true =>
    cases fin
    case false =>
      have he : errB false = 5 := rfl
      go_wp2_with fail
      go_ret
      exact ⟨ret_bool (by rw [HD.out]; rfl), BEL.out.1⟩
    case true =>
      have he : errB true = 0 := rfl
      obtain ⟨q0, q0'⟩ := box_cell XD.out 0 rfl
      obtain ⟨q1, q1'⟩ := box_cell XD.out 1 rfl
      obtain ⟨q2, q2'⟩ := box_cell XD.out 2 rfl
      go_wp2_with fail
      clear q0 q0' q1 q1' q2 q2'
      go_at_call 52
      refine (QIn.out _ _ P1.out.c (tab_below HT.out BEL.out.1)).mono ?_
      rintro en3 w3 ⟨rfl, hb⟩
      replace BEL := Aside0.mk (BEL.out.next hb)
      replace XD := Aside0.mk (blk_below XD.out hb)
      replace P1 := Aside0.mk (P1.out.below hb)
      clear hb
      go_wp2_with fail
      go_ret
      exact ⟨ret_bool (by rw [HD.out]; rfl), BEL.out.1⟩

def caseG (f : Nat) (z : Int) : Option (Int × Int) := ((caseL[f - 1]?).getD (fun _ => none)) z
def exE (f x : Nat) : Int := if isF f = true then (if domF f x = true then 0 else 5) else 2
def exO (f x : Nat) : Option (Int × Int) := if isF f = true ∧ domF f x = true then caseG f (fromV x) else none
theorem IsClo.lower {w : World} {b b' : Nat} {v : Value} {G : Int → Option (Int × Int)} (h : IsClo w b v G) (hb : b' ≤ b) : IsClo w b' v G := by
  induction h with
  | atc h1 h2 hP hn => exact .atc h1 h2 (hP.lower hb) hn
  | pow2 h1 h2 h3 h4 a b c d e => exact .pow2 h1 h2 h3 h4 a b c d e
  | pow10 h1 h2 h3 h4 a b c d e f g => exact .pow10 h1 h2 h3 h4 a b c d e f g
  | log2 h1 h2 h3 a b => exact .log2 h1 h2 h3 a b
  | log10 h1 h2 h3 a b => exact .log10 h1 h2 h3 a b
  | turned h1 a => exact .turned h1 a
  | first h1 h2 _ _ _ i0 i1 i2 => exact .first h1 h2 i0 i1 i2
def HasMap (w : World) (b : Nat) (v : Value) : Prop := ∃ m, v = .map (some m) ∧ MapC w b m caseL
theorem HasMap.later {w w1 : World} {b : Nat} {v : Value} (h : HasMap w b v) (hb : Below w.heap.size w w1) : HasMap w1 b v := by
  obtain ⟨m, h1, h2⟩ := h; exact ⟨m, h1, h2.later hb⟩
def HasClo (w : World) (b : Nat) (v : Value) (G : Int → Option (Int × Int)) : Prop := ∃ n cap, v = .func (.func n) #[] cap ∧ Clo w b n cap G
theorem HasClo.later {w w1 : World} {b : Nat} {v : Value} {G : Int → Option (Int × Int)} (h : HasClo w b v G) (hb : Below w.heap.size w w1) : HasClo w1 b v G := by
  obtain ⟨n, c, h1, h2⟩ := h; exact ⟨n, c, h1, h2.below hb⟩
theorem HasMap.get {w : World} {b f : Nat} {v : Value} (h : HasMap w b v) (hb : b ≤ w.heap.size) (h1 : 1 ≤ f) (h2 : f ≤ 30) :
    ∃ m n cap, v = .map (some m) ∧ (Instr.lookup 56 (.map (some m)) (.int .u8 (f : Int)) false).run Tryd.prog w = .ok (.func (.func n) #[] cap) w ∧ Clo w b n cap (caseG f) := by
  obtain ⟨m, rfl, L, h3, h4, h5⟩ := h
  have h30 : caseL.length = 30 := rfl
  obtain ⟨v, hv⟩ : ∃ v, L[f - 1]? = some v := ⟨_, List.getElem?_eq_getElem (by omega)⟩
  obtain ⟨G, hG⟩ : ∃ G, caseL[f - 1]? = some G := ⟨_, List.getElem?_eq_getElem (by omega)⟩
  obtain ⟨n, cap, rfl, hc⟩ := (h5 _ _ _ hv hG).call hb
  have h6 := map_lookup h3 hv
  rw [show ((f - 1 : Nat) : Int) + 1 = (f : Int) by omega] at h6
  have h7 : caseG f = G := by
    funext z; unfold caseG; rw [hG]; rfl
  exact ⟨m, n, cap, rfl, h6, by rw [h7]; exact hc⟩
theorem isF_range {f : Nat} (h : isF f = true) : 1 ≤ f ∧ f ≤ 30 := of_decide_eq_true h

set_option maxRecDepth 100000 in
set_option maxHeartbeats 8000000 in
theorem exact_any (f x : Nat) (hf : f < 256) (hx : x < 18446744073709551616) (w : World) (hT : TabAt 0 Lib.deBruijn64tab w) :
    Calls Tryd.prog 11 #[.int .u8 f, .int .u64 (x : Int)] w fun en w' => ∃ v', en = .returned (.tuple #[v', .bool (exO f x).isSome, .int .i64 (exE f x)]) ∧ PDy w' w.heap.size v' ((exO f x).getD (0, 0)).1 ((exO f x).getD (0, 0)).2 ∧ Below w.heap.size w w' := by
  have HT := Aside0.mk hT
  have HF := Aside0.mk hf
  have QFr := Aside0.mk (fun (W : World) (ht : TabAt 0 Lib.deBruijn64tab W) => from_one x hx W ht)
  have QD := Aside0.mk (fun (W : World) (ht : TabAt 0 Lib.deBruijn64tab W) => domain_any f x hf hx W ht)
  have QIs := Aside0.mk (fun (W : World) => is_one f hf W)
  have HE := Aside0.mk (show exE f x = if isF f = true then (if domF f x = true then 0 else 5) else 2 from rfl)
  have HO := Aside0.mk (show exO f x = if isF f = true ∧ domF f x = true then caseG f (fromV x) else none from rfl)
  have HZ := Aside0.mk (fromV_small x)
  have HFin := Aside0.mk (show domF f x = true → finB x = true from fun h => by
    unfold domF at h
    simp only [Bool.and_eq_true] at h
    exact h.1.2)
  have HIR := Aside0.mk (isF_range (f := f))
  obtain ⟨eo, heo⟩ : ∃ o, o = exO f x := ⟨_, rfl⟩
  obtain ⟨ee, hee⟩ : ∃ o, o = exE f x := ⟨_, rfl⟩
  rw [← heo] at HO ⊢
  rw [← hee] at HE ⊢
  clear hT hf hx heo hee
  generalize fromV x = z at *
  generalize isF f = isf at *
  generalize domF f x = dom at *
  generalize finB x = fin at *
  go_enter Tryd.func11, Tryd.ntmps11
  have BEL : Aside0 (BelN w 1 (w.alloc (.cells #[.bool false, .slice none 0 0, .int .i64 0] 27))) := ⟨((BelN.zero w).alloc _).less (by decide)⟩
  have XR : Aside0 ((w.alloc (.cells #[.bool false, .slice none 0 0, .int .i64 0] 27)).heap[w.heap.size]? = some (.cells #[.bool false, .slice none 0 0, .int .i64 0] 27 (0, 0))) := ⟨by have h := blk_new w (.cells #[.bool false, .slice none 0 0, .int .i64 0] 27); exact h⟩
  go_wp2_with fail
  go_at_call 30
  refine (QIs.out _).mono ?_
  rintro en1 w1 ⟨rfl, hb⟩
  replace BEL := Aside0.mk (BEL.out.next hb)
  replace XR := Aside0.mk (blk_below XR.out hb)
  clear hb
  cases isf
  case false =>
    have HEE : Aside0 (ee = 2) := ⟨by rw [HE.out]; rfl⟩
    have HOO : Aside0 (eo = none) := ⟨by rw [HO.out, if_neg (fun h => by cases h.1)]⟩
    go_wp2_with (((with_reducible refine gate_store (p := 4) rfl ?_); go_must (refine store_box 27 4 (.tmp 14) rfl rfl rfl (g := w.heap.size) (e := 27) (.agg #[.bool false, .slice none 0 0, .int .i64 0]) ([.bool false, .slice none 0 0, .int .i64 0]) rfl rfl rfl info_dyad ?b1 XR.out rfl ?_; (case b1 => intro q hq; simp at hq; rcases hq with rfl | rfl | rfl <;> rfl); intro wb hbx hgx; have HX := Aside0.mk hbx; have HG := Aside0.mk hgx; clear hbx hgx)); replace BEL := Aside0.mk (BEL.out.grown HG.out (by omega)); replace XR := HX; clear HG)
    refine bodyPost_ret (results_list (rs := [.cell 4 27, .tmp 5, .tmp 6]) rfl (by simp) (Vals.box any_dyad info_dyad (g := w.heap.size) rfl XR.out rfl (.tmp (.tmp .nil)))) rfl ?_
    rw [HEE.out, HOO.out]
    exact ⟨_, rfl, PDy.zero _ _ _, BEL.out.1⟩
  case true =>
    go_wp2_with fail
    go_at_call 28
    refine (QD.out _ (tab_below HT.out BEL.out.1)).mono ?_
    rintro en2 w2 ⟨rfl, hb⟩
    replace BEL := Aside0.mk (BEL.out.next hb)
    replace XR := Aside0.mk (blk_below XR.out hb)
    clear hb
    cases dom
    case false =>
      have HEE : Aside0 (ee = 5) := ⟨by rw [HE.out]; rfl⟩
      have HOO : Aside0 (eo = none) := ⟨by rw [HO.out, if_neg (fun h => by cases h.2)]⟩
      go_wp2_with (((with_reducible refine gate_store (p := 4) rfl ?_); go_must (refine store_box 27 4 (.tmp 20) rfl rfl rfl (g := w.heap.size) (e := 27) (.agg #[.bool false, .slice none 0 0, .int .i64 0]) ([.bool false, .slice none 0 0, .int .i64 0]) rfl rfl rfl info_dyad ?b1 XR.out rfl ?_; (case b1 => intro q hq; simp at hq; rcases hq with rfl | rfl | rfl <;> rfl); intro wb hbx hgx; have HX := Aside0.mk hbx; have HG := Aside0.mk hgx; clear hbx hgx)); replace BEL := Aside0.mk (BEL.out.grown HG.out (by omega)); replace XR := HX; clear HG)
      refine bodyPost_ret (results_list (rs := [.cell 4 27, .tmp 5, .tmp 6]) rfl (by simp) (Vals.box any_dyad info_dyad (g := w.heap.size) rfl XR.out rfl (.tmp (.tmp .nil)))) rfl ?_
      rw [HEE.out, HOO.out]
      exact ⟨_, rfl, PDy.zero _ _ _, BEL.out.1⟩
    case true =>
      have hfin := HFin.out (by simp)
      subst hfin
      have HEE : Aside0 (ee = 0) := ⟨by rw [HE.out]; rfl⟩
      have HOO : Aside0 (eo = caseG f z) := ⟨by rw [HO.out, if_pos (by simp)]⟩
      have HR := Aside0.mk (HIR.out (by simp))
      clear HIR
      go_wp2_with fail
      go_at_call 20
      refine (QFr.out _ (tab_below HT.out BEL.out.1)).mono ?_
      have BL0 := BEL
      rintro en3 w3 ⟨v3, rfl, hr, hb⟩
      replace BEL := Aside0.mk (BEL.out.next hb)
      replace XR := Aside0.mk (blk_below XR.out hb)
      have P1 := Aside0.mk hr
      obtain ⟨b3, A3, n3, c3, x3, rfl⟩ := hr.ex
      clear hr hb
      have BL := BEL
      have BELo := BEL
      go_wp2_with (replace BEL := Aside0.mk ((BEL.out.alloc (.cells #[.bool false, .slice none 0 0, .int .i64 0] 27)).less (j := 1) (by omega)); have HN := Aside0.mk (blk_new w3 (.cells #[.bool false, .slice none 0 0, .int .i64 0] 27)); have L_XR := lt_blk XR.out; replace XR := Aside0.mk (blk_alloc XR.out (.cells #[.bool false, .slice none 0 0, .int .i64 0] 27)); replace P1 := Aside0.mk (P1.out.below (below_alloc (Below.refl _ _) (.cells #[.bool false, .slice none 0 0, .int .i64 0] 27))); ((with_reducible refine gate_store (p := 7) rfl ?_); go_must (refine store_box 27 7 (.tmp 24) rfl rfl rfl (g := w3.heap.size) (e := 27) (.agg #[.bool b3, .slice A3 n3 c3, .int .i64 x3]) ([.bool b3, .slice A3 n3 c3, .int .i64 x3]) rfl rfl rfl info_dyad ?b1 HN.out rfl ?_; (case b1 => intro q hq; simp at hq; rcases hq with rfl | rfl | rfl <;> rfl); intro wb hbx hgx; have HX := Aside0.mk hbx; have HG := Aside0.mk hgx; clear hbx hgx)); replace P1 := Aside0.mk (P1.out.grown_box HN.out (by decide) HG.out); have LB_XD := BELo.out.2; replace BEL := Aside0.mk (BEL.out.grown HG.out (Nat.le_trans (Nat.le_add_right _ _) LB_XD)); replace XR := Aside0.mk (blk_grown XR.out HG.out (Nat.ne_of_lt L_XR)); have NE_XR_XD := Aside0.mk (Nat.ne_of_lt L_XR); clear L_XR; have LL_XD := Aside0.mk LB_XD; clear LB_XD; have XD := HX; clear HG HN HX)
      obtain ⟨GM, hGM⟩ : ∃ G : (Nat → Prop) → (Nat → Value) → World → Prop, G = fun L v W => BelN wb 0 W ∧ W.heap[w.heap.size]? = some (.cells #[.bool false, .slice none 0 0, .int .i64 0] 27 (0, 0)) ∧ W.heap[w3.heap.size]? = some (.cells #[.bool b3, .slice A3 n3 c3, .int .i64 x3] 27 (0, 0)) ∧ PDy W w.heap.size (.agg #[.bool b3, .slice A3 n3 c3, .int .i64 x3]) z (-1074) ∧ (L 0 → (¬ L 6 → HasMap W w.heap.size (v 0))) ∧ (L 1 → (v 1) = .int .u8 (f : Int)) ∧ (L 2 → (¬ L 6 → HasClo W w.heap.size (v 2) (caseG f))) ∧ (L 3 → (v 3) = .agg #[.bool b3, .slice A3 n3 c3, .int .i64 x3]) ∧ (L 4 → PO W w.heap.size (v 4) (caseG f z)) ∧ (L 5 → ∃ g : Nat, (v 5) = .pointer (some ⟨g, 0, none⟩) ∧ wb.heap.size + 0 ≤ g ∧ (¬ L 6 → W.heap[g]? = some (.cells #[.bool false, .slice none 0 0, .int .i64 0, .bool false] 51 (0, 0))) ∧ (L 6 → ∃ (bb : Bool) (A : Option Addr) (n c : Nat) (x : Int) (b2 : Bool), (v 4) = .agg #[.bool bb, .slice A n c, .int .i64 x, .bool b2] ∧ W.heap[g]? = some (.cells #[.bool bb, .slice A n c, .int .i64 x, .bool b2] 51 (0, 0)))) ∧ True := ⟨_, rfl⟩
      refine wp_region_slotsV [26, 27, 28, 29, 30, 9] (by kernel_rfl) (by kernel_rfl) (G := GM) ?h0M ?hstepM ?hendM
      case h0M =>
        intro v; rw [hGM]
        exact ⟨(BelN.zero wb).next (below_drew (Below.refl _ _)), blk_drew XR.out, blk_drew XD.out, (P1.out.below (below_drew (Below.refl _ _))).lower BL0.out.1.size, fun h => h.elim, fun h => h.elim, fun h => h.elim, fun h => h.elim, fun h => h.elim, fun h => h.elim, trivial⟩
      case hstepM =>
        intro k o ho v W L hGv hnk haft hcl K hK
        rw [hGM] at hGv
        obtain ⟨hB, hb0, hb1, hk0, f0, f1, f2, f3, f4, f5, f6⟩ := hGv
        rcases k with _ | _ | _ | _ | _ | _ | _ | k
        all_goals first
          | (cases ho; done)
          | (obtain rfl := (Option.some.inj ho).symm
             clear ho
             rw [if_pos (by rfl)]
             simp only [setAll, List.setIfInBounds_toArray, List.set_cons_zero, List.set_cons_succ, List.set_nil, List.getElem_toArray, List.getElem_cons_zero, List.getElem_cons_succ, Nat.reduceAdd] at haft hK ⊢)
        case zero =>
          have HALL := Aside0.mk (And.intro hK (And.intro hB (And.intro hb0 ( And.intro hb1 ( And.intro hk0 ( And.intro f0 ( And.intro f1 ( And.intro f2 ( And.intro f3 ( And.intro f4 ( And.intro f5 ( And.intro f6 (True.intro)))))))))))))
          clear hK hb0 hb1 hk0 f0 f1 f2 f3 f4 f5 f6
          go_simp
          go_at_call 31
          refine (cases_any W (tab_below HT.out (BEL.out.next hB.1).1)).mono ?_
          rintro en w4 ⟨m1, rfl, hr, hb⟩
          obtain ⟨hK, hB, hb0, hb1, hk0, f0, f1, f2, f3, f4, f5, f6, _⟩ := HALL.out
          have key := hK.out (.map (some m1)) w4 (by rw [hGM]; exact ⟨hB.next hb, blk_below hb0 hb, blk_below hb1 hb, hk0.below hb, fun _ => by rw [upd_eq]; exact (fun _ => ⟨m1, rfl, (by obtain ⟨L1, q1, q2, q3⟩ := hr; exact ⟨L1, q1, q2, fun i v G hv hG => (q3 i v G hv hG).lower (BEL.out.next hB.1).1.size⟩)⟩), (kv f1 (by decide)), (fun h => by rw [upd_ne v _ (by decide)]; exact (fun h6 => (f2 (h.resolve_right (by decide)) (fun h => h6 (.inl h))).later hb)), (kv f3 (by decide)), (fun h => by rw [upd_ne v _ (by decide)]; exact (f4 (h.resolve_right (by decide))).below hb), (fun h => by obtain ⟨g, e1, e2, e3, e4⟩ := f5 (h.resolve_right (by decide)); rw [upd_ne v _ (by decide), upd_ne v _ (by decide)]; exact ⟨g, e1, e2, fun h2 => blk_below (e3 (fun h3 => h2 (.inl h3))) hb, fun h2 => by obtain ⟨bb, A, n, c, x, b2, y1, y2⟩ := e4 (h2.resolve_right (by decide)); exact ⟨bb, A, n, c, x, b2, y1, blk_below y2 hb⟩⟩), trivial⟩)
          clear hb0 hb1 hk0 f0 f1 f2 f3 f4 f5 f6 hK HALL
          simpa [upd] using key
        case succ.zero =>
          have hb := Below.refl W.heap.size W
          have key := hK.out (.int .u8 (f : Int)) W (by rw [hGM]; exact ⟨hB.next hb, blk_below hb0 hb, blk_below hb1 hb, hk0.below hb, (fun h => by rw [upd_ne v _ (by decide)]; exact (fun h6 => (f0 (h.resolve_right (by decide)) (fun h => h6 (.inl h))).later hb)), fun _ => by rw [upd_eq], (fun h => by rw [upd_ne v _ (by decide)]; exact (fun h6 => (f2 (h.resolve_right (by decide)) (fun h => h6 (.inl h))).later hb)), (kv f3 (by decide)), (fun h => by rw [upd_ne v _ (by decide)]; exact (f4 (h.resolve_right (by decide))).below hb), (fun h => by obtain ⟨g, e1, e2, e3, e4⟩ := f5 (h.resolve_right (by decide)); rw [upd_ne v _ (by decide), upd_ne v _ (by decide)]; exact ⟨g, e1, e2, fun h2 => blk_below (e3 (fun h3 => h2 (.inl h3))) hb, fun h2 => by obtain ⟨bb, A, n, c, x, b2, y1, y2⟩ := e4 (h2.resolve_right (by decide)); exact ⟨bb, A, n, c, x, b2, y1, blk_below y2 hb⟩⟩), trivial⟩)
          clear hb0 hb1 hk0 f0 f1 f2 f3 f4 f5 f6 hb hK
          go_simp
          simpa [upd] using key
        case succ.succ.zero =>
          have d0 := f0 (haft { on := 0, ground := .data } (by simp) rfl)
          have D0 := d0
          have d1 := f1 (haft { on := 1, ground := .data } (by simp) rfl)
          have D1 := d1
          have hns6 : ¬ L 6 := fun hs => hnk (hcl 6 _ rfl hs { on := 2, ground := .phase } (by simp) rfl)
          have HALL := Aside0.mk (And.intro hK (And.intro hB (And.intro hb0 ( And.intro hb1 ( And.intro hk0 ( And.intro f0 ( And.intro f1 ( And.intro f2 ( And.intro f3 ( And.intro f4 ( And.intro f5 ( And.intro f6 (True.intro)))))))))))))
          clear hK hb0 hb1 hk0 f0 f1 f2 f3 f4 f5 f6
          have hb := Below.refl W.heap.size W
          obtain ⟨m0, n0, cap0, e0, hlk, hcl0⟩ := (d0 hns6).get (BEL.out.next hB.1).1.size HR.out.1 HR.out.2
          go_simp
          obtain ⟨hK, hB, hb0, hb1, hk0, f0, f1, f2, f3, f4, f5, f6, _⟩ := HALL.out
          have key := hK.out (.func (.func n0) #[] cap0) W (by rw [hGM]; exact ⟨hB.next hb, blk_below hb0 hb, blk_below hb1 hb, hk0.below hb, (fun h => by rw [upd_ne v _ (by decide)]; exact (fun h6 => (f0 (h.resolve_right (by decide)) (fun h => h6 (.inl h))).later hb)), (kv f1 (by decide)), fun _ => by rw [upd_eq]; exact (fun _ => ⟨n0, cap0, rfl, hcl0⟩), (kv f3 (by decide)), (fun h => by rw [upd_ne v _ (by decide)]; exact (f4 (h.resolve_right (by decide))).below hb), (fun h => by obtain ⟨g, e1, e2, e3, e4⟩ := f5 (h.resolve_right (by decide)); rw [upd_ne v _ (by decide), upd_ne v _ (by decide)]; exact ⟨g, e1, e2, fun h2 => blk_below (e3 (fun h3 => h2 (.inl h3))) hb, fun h2 => by obtain ⟨bb, A, n, c, x, b2, y1, y2⟩ := e4 (h2.resolve_right (by decide)); exact ⟨bb, A, n, c, x, b2, y1, blk_below y2 hb⟩⟩), trivial⟩)
          clear hb0 hb1 hk0 f0 f1 f2 f3 f4 f5 f6 hK HALL
          simpa [upd, D1, e0, D1] using key
        case succ.succ.succ.zero =>
          have cc0 := (box_cell (v := .bool b3) hb1 0 rfl).1
          have cc1 := (box_cell (v := .slice A3 n3 c3) hb1 1 rfl).1
          have cc2 := (box_cell (v := .int .i64 x3) hb1 2 rfl).1
          have hb := Below.refl W.heap.size W
          have key := hK.out (.agg #[.bool b3, .slice A3 n3 c3, .int .i64 x3]) W (by rw [hGM]; exact ⟨hB.next hb, blk_below hb0 hb, blk_below hb1 hb, hk0.below hb, (fun h => by rw [upd_ne v _ (by decide)]; exact (fun h6 => (f0 (h.resolve_right (by decide)) (fun h => h6 (.inl h))).later hb)), (kv f1 (by decide)), (fun h => by rw [upd_ne v _ (by decide)]; exact (fun h6 => (f2 (h.resolve_right (by decide)) (fun h => h6 (.inl h))).later hb)), fun _ => by rw [upd_eq], (fun h => by rw [upd_ne v _ (by decide)]; exact (f4 (h.resolve_right (by decide))).below hb), (fun h => by obtain ⟨g, e1, e2, e3, e4⟩ := f5 (h.resolve_right (by decide)); rw [upd_ne v _ (by decide), upd_ne v _ (by decide)]; exact ⟨g, e1, e2, fun h2 => blk_below (e3 (fun h3 => h2 (.inl h3))) hb, fun h2 => by obtain ⟨bb, A, n, c, x, b2, y1, y2⟩ := e4 (h2.resolve_right (by decide)); exact ⟨bb, A, n, c, x, b2, y1, blk_below y2 hb⟩⟩), trivial⟩)
          clear hb0 hb1 hk0 f0 f1 f2 f3 f4 f5 f6 hb hK
          go_simp
          simpa [upd] using key
        case succ.succ.succ.succ.zero =>
          have hns6 : ¬ L 6 := fun hs => hnk (hcl 6 _ rfl hs { on := 4, ground := .data } (by simp) rfl)
          have d2 := f2 (haft { on := 2, ground := .data } (by simp) rfl)
          have D2 := d2
          have d3 := f3 (haft { on := 3, ground := .data } (by simp) rfl)
          have D3 := d3
          have K1 := hk0
          have HALL := Aside0.mk (And.intro hK (And.intro hB (And.intro hb0 ( And.intro hb1 ( And.intro hk0 ( And.intro f0 ( And.intro f1 ( And.intro f2 ( And.intro f3 ( And.intro f4 ( And.intro f5 ( And.intro f6 (True.intro)))))))))))))
          clear hK hb0 hb1 hk0 f0 f1 f2 f3 f4 f5 f6
          obtain ⟨n2, cap2, e2, hcl2⟩ := d2 hns6
          have hcf := hcl2.1
          unfold Enters at hcf
          go_simp
          refine (hcl2.2 W _ z (Below.refl _ _) K1.c HZ.out (tab_below HT.out (BEL.out.next hB.1).1)).mono ?_
          rintro en w4 ⟨v1, rfl, hr, hb⟩
          obtain ⟨hK, hB, hb0, hb1, hk0, f0, f1, f2, f3, f4, f5, f6, _⟩ := HALL.out
          have key := hK.out (v1) w4 (by rw [hGM]; exact ⟨hB.next hb, blk_below hb0 hb, blk_below hb1 hb, hk0.below hb, (fun h => by rw [upd_ne v _ (by decide)]; exact (fun h6 => (f0 (h.resolve_right (by decide)) (fun h => h6 (.inl h))).later hb)), (kv f1 (by decide)), (fun h => by rw [upd_ne v _ (by decide)]; exact (fun h6 => (f2 (h.resolve_right (by decide)) (fun h => h6 (.inl h))).later hb)), (kv f3 (by decide)), fun _ => by rw [upd_eq]; exact hr, (fun h => by obtain ⟨g, e1, e2, e3, e4⟩ := f5 (h.resolve_right (by decide)); rw [upd_ne v _ (by decide)]; exact ⟨g, e1, e2, fun h2 => blk_below (e3 (fun h3 => h2 (.inl h3))) hb, fun h2 => (hns6 (h2.resolve_right (by decide))).elim⟩), trivial⟩)
          clear hb0 hb1 hk0 f0 f1 f2 f3 f4 f5 f6 hK HALL
          simpa [upd, D3, e2] using key
        case succ.succ.succ.succ.succ.zero =>
          have hns6 : ¬ L 6 := fun hs => hnk (hcl 6 _ rfl hs { on := 5, ground := .data } (by simp) rfl)
          have hb := below_alloc (Below.refl W.heap.size W) (.cells #[.bool false, .slice none 0 0, .int .i64 0, .bool false] 51)
          have key := hK.out (.pointer (some ⟨W.heap.size, 0, none⟩)) (W.alloc (.cells #[.bool false, .slice none 0 0, .int .i64 0, .bool false] 51)) (by rw [hGM]; exact ⟨hB.next hb, blk_below hb0 hb, blk_below hb1 hb, hk0.below hb, (fun h => by rw [upd_ne v _ (by decide)]; exact (fun h6 => (f0 (h.resolve_right (by decide)) (fun h => h6 (.inl h))).later hb)), (kv f1 (by decide)), (fun h => by rw [upd_ne v _ (by decide)]; exact (fun h6 => (f2 (h.resolve_right (by decide)) (fun h => h6 (.inl h))).later hb)), (kv f3 (by decide)), (fun h => by rw [upd_ne v _ (by decide)]; exact (f4 (h.resolve_right (by decide))).below hb), fun _ => by rw [upd_eq]; exact ⟨W.heap.size, rfl, hB.2, fun _ => blk_new W _, fun h2 => (hns6 (h2.resolve_right (by decide))).elim⟩, trivial⟩)
          clear hb0 hb1 hk0 f0 f1 f2 f3 f4 f5 f6 hK hb hns6
          go_simp
          simpa [upd] using key
        case succ.succ.succ.succ.succ.succ.zero =>
          have l0 := lt_blk XR.out
          have l1 := lt_blk XD.out
          obtain ⟨g, e1, e2, e3, -⟩ := f5 (haft { on := 5, ground := .data } (by simp) rfl)
          have hgb := e3 hnk
          have ds := f4 (haft { on := 4, ground := .data } (by simp) rfl)
          obtain ⟨bb, A, n, c, x, b2, es⟩ := ds.ex
          refine wp_store_box 51 9 (.tmp 30) rfl rfl (g := g) (e := 51) (v 4) [.bool bb, .slice A n c, .int .i64 x, .bool b2] (by first | rfl | exact e1) rfl (by rw [es]; rfl) info_told ?_ hgb rfl ?_
          · intro q hq; simp at hq; rcases hq with rfl | rfl | rfl | rfl <;> rfl
          · intro w1 hw1 hg
            have key := hK.out undef w1 (by rw [hGM]; exact ⟨hB.grown hg (by omega), blk_grown hb0 hg (by omega), blk_grown hb1 hg (by omega), hk0.grown_box hgb (by decide) hg, (fun h => by rw [upd_ne v _ (by decide)]; exact (fun h6 => (h6 (.inr rfl)).elim)), (kv f1 (by decide)), (fun h => by rw [upd_ne v _ (by decide)]; exact (fun h6 => (h6 (.inr rfl)).elim)), (kv f3 (by decide)), (fun h => by rw [upd_ne v _ (by decide)]; exact (f4 (h.resolve_right (by decide))).grown_box hgb (by decide) hg), (fun h => by rw [upd_ne v _ (by decide), upd_ne v _ (by decide)]; exact ⟨g, e1, e2, fun h2 => (h2 (.inr rfl)).elim, fun _ => ⟨bb, A, n, c, x, b2, es, hw1⟩⟩), trivial⟩)
            clear hb0 hb1 hk0 f0 f1 f2 f3 f4 f5 f6 hK
            simpa [upd] using key
      case hendM =>
        intro v W L0 hall hGv
        rw [hGM] at hGv
        obtain ⟨hB, hb0, hb1, hk0, f0, f1, f2, f3, f4, f5, _⟩ := hGv
        have d4 := f4 (hall 4 (by decide))
        obtain ⟨g, p5, hgs, _, hg5⟩ := f5 (hall 5 (by decide))
        obtain ⟨b9, A9, n9, c9, x9, s9, p9, hx9⟩ := hg5 (hall 6 (by decide))
        rw [p9] at d4
        have l0 := lt_blk XR.out
        have HGN := Aside0.mk (show w.heap.size ≠ g by omega)
        clear l0
        replace BEL := Aside0.mk (BEL.out.next hB.1)
        replace XR := Aside0.mk hb0
        have XT := Aside0.mk hx9
        have P9 := Aside0.mk d4
        clear hall f0 f1 f2 f3 f4 f5 hB hb0 hb1 d4 hx9 hg5 hgs hk0 XD P1
        simp only [setAll, List.setIfInBounds_toArray, List.set_cons_zero, List.set_cons_succ, List.set_nil, Nat.reduceAdd, p5, p9]
        go_upto_region 7 with fail
        obtain ⟨GN, hGN⟩ : ∃ G : (Nat → Prop) → (Nat → Value) → World → Prop, G = fun L v W => BelN w 1 W ∧ W.heap[g]? = some (.cells #[.bool b9, .slice A9 n9 c9, .int .i64 x9, .bool s9] 51 (0, 0)) ∧ PO W w.heap.size (.agg #[.bool b9, .slice A9 n9 c9, .int .i64 x9, .bool s9]) (caseG f z) ∧ (L 0 → (v 0) = .pointer (some ⟨g, 0, none⟩)) ∧ (L 1 → (v 1) = .agg #[.bool b9, .slice A9 n9 c9, .int .i64 x9]) ∧ (L 2 → (v 2) = .pointer (some ⟨g, 3, none⟩)) ∧ (L 3 → (v 3) = .bool s9) ∧ ((¬ L 4 → W.heap[w.heap.size]? = some (.cells #[.bool false, .slice none 0 0, .int .i64 0] 27 (0, 0))) ∧ (L 4 → W.heap[w.heap.size]? = some (.cells #[.bool b9, .slice A9 n9 c9, .int .i64 x9] 27 (0, 0)))) ∧ (L 5 → (v 5) = .bool s9) ∧ (L 6 → (v 6) = .int .i64 0) := ⟨_, rfl⟩
        refine wp_region_slotsV [31, 32, 33, 34, 99, 5, 6] (by kernel_rfl) (by kernel_rfl) (G := GN) ?h0N ?hstepN ?hendN
        case h0N =>
          intro v; rw [hGN]
          exact ⟨BEL.out.next (below_drew (Below.refl _ _)), blk_drew XT.out, P9.out.below (below_drew (Below.refl _ _)), fun h => h.elim, fun h => h.elim, fun h => h.elim, fun h => h.elim, ⟨fun _ => blk_drew XR.out, fun h => h.elim⟩, fun h => h.elim, fun h => h.elim⟩
        case hstepN =>
          intro k o ho v W L hGv hnk haft hcl K hK
          rw [hGN] at hGv
          obtain ⟨hB, hb0, hk0, f0, f1, f2, f3, f4, f5, f6⟩ := hGv
          rcases k with _ | _ | _ | _ | _ | _ | _ | k
          all_goals first
            | (cases ho; done)
            | (obtain rfl := (Option.some.inj ho).symm
               clear ho
               rw [if_pos (by rfl)]
               simp only [setAll, List.setIfInBounds_toArray, List.set_cons_zero, List.set_cons_succ, List.set_nil, List.getElem_toArray, List.getElem_cons_zero, List.getElem_cons_succ, Nat.reduceAdd] at haft hK ⊢)
          case zero =>
            have hb := Below.refl W.heap.size W
            have key := hK.out (.pointer (some ⟨g, 0, none⟩)) W (by rw [hGN]; exact ⟨hB.next hb, blk_below hb0 hb, hk0.below hb, fun _ => by rw [upd_eq], (kv f1 (by decide)), (kv f2 (by decide)), (kv f3 (by decide)), (⟨fun h2 => blk_below (f4.1 (fun h3 => h2 (.inl h3))) hb, fun h2 => blk_below (f4.2 (h2.resolve_right (by decide))) hb⟩), (kv f5 (by decide)), (kv f6 (by decide))⟩)
            clear hb0 hk0 f0 f1 f2 f3 f4 f5 f6 hb hK
            go_simp
            simpa [upd] using key
          case succ.zero =>
            have hns4 : ¬ L 4 := fun hs => hnk (hcl 4 _ rfl hs { on := 1, ground := .data } (by simp) rfl)
            have d0 := f0 (haft { on := 0, ground := .data } (by simp) rfl)
            have D0 := d0
            have cc0 := (box_cell (v := .bool b9) hb0 0 rfl).1
            have cc1 := (box_cell (v := .slice A9 n9 c9) hb0 1 rfl).1
            have cc2 := (box_cell (v := .int .i64 x9) hb0 2 rfl).1
            have hb := Below.refl W.heap.size W
            have key := hK.out (.agg #[.bool b9, .slice A9 n9 c9, .int .i64 x9]) W (by rw [hGN]; exact ⟨hB.next hb, blk_below hb0 hb, hk0.below hb, (kv f0 (by decide)), fun _ => by rw [upd_eq], (kv f2 (by decide)), (kv f3 (by decide)), (⟨fun h2 => blk_below (f4.1 (fun h3 => h2 (.inl h3))) hb, fun h2 => (hns4 (h2.resolve_right (by decide))).elim⟩), (kv f5 (by decide)), (kv f6 (by decide))⟩)
            clear hb0 hk0 f0 f1 f2 f3 f4 f5 f6 hb hK
            go_simp
            simpa [upd, D0] using key
          case succ.succ.zero =>
            have hb := Below.refl W.heap.size W
            have key := hK.out (.pointer (some ⟨g, 3, none⟩)) W (by rw [hGN]; exact ⟨hB.next hb, blk_below hb0 hb, hk0.below hb, (kv f0 (by decide)), (kv f1 (by decide)), fun _ => by rw [upd_eq], (kv f3 (by decide)), (⟨fun h2 => blk_below (f4.1 (fun h3 => h2 (.inl h3))) hb, fun h2 => blk_below (f4.2 (h2.resolve_right (by decide))) hb⟩), (kv f5 (by decide)), (kv f6 (by decide))⟩)
            clear hb0 hk0 f0 f1 f2 f3 f4 f5 f6 hb hK
            go_simp
            simpa [upd] using key
          case succ.succ.succ.zero =>
            have d2 := f2 (haft { on := 2, ground := .data } (by simp) rfl)
            have D2 := d2
            have cc3 := (box_cell (v := .bool s9) hb0 3 rfl).1
            have hb := Below.refl W.heap.size W
            have key := hK.out (.bool s9) W (by rw [hGN]; exact ⟨hB.next hb, blk_below hb0 hb, hk0.below hb, (kv f0 (by decide)), (kv f1 (by decide)), (kv f2 (by decide)), fun _ => by rw [upd_eq], (⟨fun h2 => blk_below (f4.1 (fun h3 => h2 (.inl h3))) hb, fun h2 => blk_below (f4.2 (h2.resolve_right (by decide))) hb⟩), (kv f5 (by decide)), (kv f6 (by decide))⟩)
            clear hb0 hk0 f0 f1 f2 f3 f4 f5 f6 hb hK
            go_simp
            simpa [upd, D2] using key
          case succ.succ.succ.succ.zero =>
            have h_g := HGN.out
            have hgb := f4.1 hnk
            have ds := f1 (haft { on := 1, ground := .data } (by simp) rfl)
            have es := ds
            refine wp_store_box 27 4 (.tmp 32) rfl rfl (g := w.heap.size) (e := 27) (v 1) [.bool b9, .slice A9 n9 c9, .int .i64 x9] (by first | rfl | exact rfl) rfl (by rw [es]; rfl) info_dyad ?_ hgb rfl ?_
            · intro q hq; simp at hq; rcases hq with rfl | rfl | rfl <;> rfl
            · intro w1 hw1 hg
              have key := hK.out undef w1 (by rw [hGN]; exact ⟨hB.grown hg (by omega), blk_grown hb0 hg (by omega), hk0.grown_box hgb (by decide) hg, (kv f0 (by decide)), (kv f1 (by decide)), (kv f2 (by decide)), (kv f3 (by decide)), ⟨fun h => (h (.inr rfl)).elim, fun _ => hw1⟩, (kv f5 (by decide)), (kv f6 (by decide))⟩)
              clear hb0 hk0 f0 f1 f2 f3 f4 f5 f6 hK
              simpa [upd] using key
          case succ.succ.succ.succ.succ.zero =>
            have d3 := f3 (haft { on := 3, ground := .data } (by simp) rfl)
            have D3 := d3
            have hb := Below.refl W.heap.size W
            have key := hK.out (.bool s9) W (by rw [hGN]; exact ⟨hB.next hb, blk_below hb0 hb, hk0.below hb, (kv f0 (by decide)), (kv f1 (by decide)), (kv f2 (by decide)), (kv f3 (by decide)), (⟨fun h2 => blk_below (f4.1 (fun h3 => h2 (.inl h3))) hb, fun h2 => blk_below (f4.2 (h2.resolve_right (by decide))) hb⟩), fun _ => by rw [upd_eq], (kv f6 (by decide))⟩)
            clear hb0 hk0 f0 f1 f2 f3 f4 f5 f6 hb hK
            go_simp
            simpa [upd, D3] using key
          case succ.succ.succ.succ.succ.succ.zero =>
            have hb := Below.refl W.heap.size W
            have key := hK.out (.int .i64 0) W (by rw [hGN]; exact ⟨hB.next hb, blk_below hb0 hb, hk0.below hb, (kv f0 (by decide)), (kv f1 (by decide)), (kv f2 (by decide)), (kv f3 (by decide)), (⟨fun h2 => blk_below (f4.1 (fun h3 => h2 (.inl h3))) hb, fun h2 => blk_below (f4.2 (h2.resolve_right (by decide))) hb⟩), (kv f5 (by decide)), fun _ => by rw [upd_eq]⟩)
            clear hb0 hk0 f0 f1 f2 f3 f4 f5 f6 hb hK
            go_simp
            simpa [upd] using key
        case hendN =>
          intro v W L0 hall hGv
          rw [hGN] at hGv
          obtain ⟨hB, hb0, hk0, f0, f1, f2, f3, f4, f5, f6⟩ := hGv
          have d5 := f5 (hall 5 (by decide))
          have d6 := f6 (hall 6 (by decide))
          have d4 := f4.2 (hall 4 (by decide))
          replace BEL := Aside0.mk hB
          replace XR := Aside0.mk d4
          replace P9 := Aside0.mk hk0
          clear hall f0 f1 f2 f3 f4 f5 f6 hB hb0 hk0 d4
          simp only [setAll, List.setIfInBounds_toArray, List.set_cons_zero, List.set_cons_succ, List.set_nil, Nat.reduceAdd, d5, d6]
          go_wp2
          refine bodyPost_ret (results_list (rs := [.cell 4 27, .tmp 5, .tmp 6]) rfl (by simp) (Vals.box any_dyad info_dyad (g := w.heap.size) rfl XR.out rfl (.tmp (.tmp .nil)))) rfl ?_
          rw [HEE.out, HOO.out]
          obtain ⟨q1, q2⟩ := PT.d P9.out
          exact ⟨_, by rw [q2]; rfl, q1, BEL.out.1⟩
end Go.Proofs.YtgpjplelgffocaaDoor
