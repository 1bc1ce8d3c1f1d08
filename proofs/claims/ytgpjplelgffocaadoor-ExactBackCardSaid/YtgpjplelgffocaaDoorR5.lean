/- Part 5 of the library of this claim: what the program and the document compute, as contracts of their functions. -/
import Derived.Test.YtgpjplelgffocaaDoorR4
import Derived.KernelRfl
namespace Go.Proofs.YtgpjplelgffocaaDoor
open Go.RowKit Go.Proofs.YtgpjplelgffocaaDoorW.PrintWords Limb
set_option linter.unusedVariables false
set_option linter.unusedSimpArgs false

/-- The case of a point's angle. -/
def angF (f : Nat) (y x : Int) : Option (Int × Int) :=
  if y = 0 ∧ 0 < x then some (0, 0) else if f = 33 then none else if y = 0 then some (1, 0) else if x = 0 then some (sgnI y, 0 + -1)
  else if ¬ (y.natAbs : Int) = x.natAbs then none else if 0 < x then some (sgnI y, 0 + -2) else some (3 * sgnI y, 0 + -2)
theorem sgnI_cases (y : Int) : sgnI y = 0 ∨ sgnI y = 1 ∨ sgnI y = -1 := by
  unfold sgnI; repeat' split
  all_goals first | exact .inl rfl | exact .inr (.inl rfl) | exact .inr (.inr rfl)
theorem sgnI_small (y : Int) : (sgnI y).natAbs < 2 ^ 62 := by rcases sgnI_cases y with h | h | h <;> rw [h] <;> decide
theorem sgnI_small3 (y : Int) : (3 * sgnI y).natAbs < 2 ^ 62 := by rcases sgnI_cases y with h | h | h <;> rw [h] <;> decide
theorem sgnI_wrap3 (y : Int) : wrap64 (3 * sgnI y) = 3 * sgnI y := by
  unfold wrap64
  rcases sgnI_cases y with h | h | h <;> omega
theorem cmpZ_ne (y z : Int) : (cmpZ y z != 0) = !decide (y = z) := by
  have h := cmpZ_zero y z
  rw [← h]; rfl
set_option maxRecDepth 100000 in
set_option maxHeartbeats 8000000 in
theorem ang_a {f : Nat} {u v : Value} {y x : Int} {w : World} (h : CDy w u y (-1074)) (h' : CDy w v x (-1074)) (hy : y.natAbs < 2 ^ 2098) (hx : x.natAbs < 2 ^ 2098) (e1 : y = 0) (e2 : 0 < x) (hT : TabAt 0 Lib.deBruijn64tab w) :
    Calls Tryd.prog 23 #[.int .u8 f, u, v] w fun en w' => ∃ v', en = .returned v' ∧ PO w' w.heap.size v' (some (0, 0)) ∧ Below w.heap.size w w' := by
  obtain ⟨b0, A, n0, c, x0, rfl⟩ := h.ex
  obtain ⟨c0, B, m0, d, y0, rfl⟩ := h'.ex
  have HT := Aside0.mk hT
  have HY := Aside0.mk h
  have HX := Aside0.mk h'
  have OY := Aside0.mk (ok_z hy)
  have OX := Aside0.mk (ok_z hx)
  have OAY := Aside0.mk (ok_z (z := (y.natAbs : Int)) (by rw [Int.natAbs_natCast]; exact hy))
  have OAX := Aside0.mk (ok_z (z := (x.natAbs : Int)) (by rw [Int.natAbs_natCast]; exact hx))
  have hd : decide (y = 0) = true := decide_eq_true e1
  have hs : decide (0 < sgnI x) = true := by rw [sgn_pos]; exact decide_eq_true e2
  clear h h' hy hx hT e1 e2
  go_enter Tryd.func23, Tryd.ntmps23
  have BEL : Aside0 (BelN w 3 (((w.alloc (.cells #[.bool b0, .slice A n0 c, .int .i64 x0] 27)).alloc (.cells #[.bool c0, .slice B m0 d, .int .i64 y0] 27)).alloc (.cells #[.bool false, .slice none 0 0, .int .i64 0, .bool false] 51))) := ⟨((((BelN.zero w).alloc _).alloc _).alloc _).less (by decide)⟩
  have XY : Aside0 ((((w.alloc (.cells #[.bool b0, .slice A n0 c, .int .i64 x0] 27)).alloc (.cells #[.bool c0, .slice B m0 d, .int .i64 y0] 27)).alloc (.cells #[.bool false, .slice none 0 0, .int .i64 0, .bool false] 51)).heap[w.heap.size]? = some (.cells #[.bool b0, .slice A n0 c, .int .i64 x0] 27 (0, 0))) := ⟨by have h := blk_new w (.cells #[.bool b0, .slice A n0 c, .int .i64 x0] 27); exact blk_alloc (blk_alloc (h) _) _⟩
  have XX : Aside0 ((((w.alloc (.cells #[.bool b0, .slice A n0 c, .int .i64 x0] 27)).alloc (.cells #[.bool c0, .slice B m0 d, .int .i64 y0] 27)).alloc (.cells #[.bool false, .slice none 0 0, .int .i64 0, .bool false] 51)).heap[w.heap.size + 1]? = some (.cells #[.bool c0, .slice B m0 d, .int .i64 y0] 27 (0, 0))) := ⟨by have h := blk_new (w.alloc (.cells #[.bool b0, .slice A n0 c, .int .i64 x0] 27)) (.cells #[.bool c0, .slice B m0 d, .int .i64 y0] 27); rw [size_alloc'] at h; exact blk_alloc (h) _⟩
  have XR : Aside0 ((((w.alloc (.cells #[.bool b0, .slice A n0 c, .int .i64 x0] 27)).alloc (.cells #[.bool c0, .slice B m0 d, .int .i64 y0] 27)).alloc (.cells #[.bool false, .slice none 0 0, .int .i64 0, .bool false] 51)).heap[w.heap.size + 1 + 1]? = some (.cells #[.bool false, .slice none 0 0, .int .i64 0, .bool false] 51 (0, 0))) := ⟨by have h := blk_new ((w.alloc (.cells #[.bool b0, .slice A n0 c, .int .i64 x0] 27)).alloc (.cells #[.bool c0, .slice B m0 d, .int .i64 y0] 27)) (.cells #[.bool false, .slice none 0 0, .int .i64 0, .bool false] 51); rw [size_alloc', size_alloc'] at h; exact h⟩
  obtain ⟨q0, q0'⟩ := box_cell XY.out 0 rfl
  obtain ⟨q1, q1'⟩ := box_cell XY.out 1 rfl
  obtain ⟨q2, q2'⟩ := box_cell XY.out 2 rfl
  go_wp2_with fail
  clear q0 q0' q1 q1' q2 q2'
  go_at_call 22
  refine (zero_ok (HY.out.below BEL.out.1) OY.out).mono ?_
  rintro en1 w1 ⟨rfl, hb⟩
  replace BEL := Aside0.mk (BEL.out.next hb)
  replace XY := Aside0.mk (blk_below XY.out hb)
  replace XX := Aside0.mk (blk_below XX.out hb)
  replace XR := Aside0.mk (blk_below XR.out hb)
  clear hb
  obtain ⟨q3, q3'⟩ := box_cell XX.out 0 rfl
  obtain ⟨q4, q4'⟩ := box_cell XX.out 1 rfl
  obtain ⟨q5, q5'⟩ := box_cell XX.out 2 rfl
  go_wp2_with fail
  clear q3 q3' q4 q4' q5 q5'
  go_at_call 45
  refine (sign_ok (HX.out.below BEL.out.1) OX.out).mono ?_
  rintro en2 w2 ⟨rfl, hb⟩
  replace BEL := Aside0.mk (BEL.out.next hb)
  replace XY := Aside0.mk (blk_below XY.out hb)
  replace XX := Aside0.mk (blk_below XX.out hb)
  replace XR := Aside0.mk (blk_below XR.out hb)
  clear hb
  go_wp2_with fail
  have BLW := BEL
  go_at_call 46
  refine (whole_any (0) _ (by decide) (by decide) (tab_below HT.out BEL.out.1)).mono ?_
  rintro en3 w3 ⟨v3, rfl, hr, hb⟩
  replace BEL := Aside0.mk (BEL.out.next hb)
  replace XY := Aside0.mk (blk_below XY.out hb)
  replace XX := Aside0.mk (blk_below XX.out hb)
  replace XR := Aside0.mk (blk_below XR.out hb)
  have P1 := Aside0.mk hr
  obtain ⟨b3, A3, n3, c3, x3, rfl⟩ := hr.ex5
  clear hr hb
  go_wp2_with (((with_reducible refine gate_store (p := 6) rfl ?_); go_must (refine store_box 51 6 (.tmp 15) rfl rfl rfl (g := w.heap.size + 1 + 1) (e := 51) (.agg #[.bool b3, .slice A3 n3 c3, .int .i64 x3, .bool true]) ([.bool b3, .slice A3 n3 c3, .int .i64 x3, .bool true]) rfl rfl rfl info_told ?b1 XR.out rfl ?_; (case b1 => intro q hq; simp at hq; rcases hq with rfl | rfl | rfl | rfl <;> rfl); intro wb hbx hgx; have HX := Aside0.mk hbx; have HG := Aside0.mk hgx; clear hbx hgx)); replace P1 := Aside0.mk (P1.out.grown_box XR.out (by decide) HG.out); replace BEL := Aside0.mk (BEL.out.grown HG.out (by omega)); replace XY := Aside0.mk (blk_grown XY.out HG.out (by omega)); replace XX := Aside0.mk (blk_grown XX.out HG.out (by omega)); replace XR := HX; clear HG)
  refine bodyPost_ret (results_told rfl _ _ (w.heap.size + 1 + 1) _ rfl XR.out rfl) rfl ?_
  exact ⟨_, rfl, P1.out.some.lower (Nat.le_trans (Nat.le_add_right _ _) BLW.out.2), BEL.out.1⟩

set_option maxRecDepth 100000 in
set_option maxHeartbeats 8000000 in
theorem ang_b {f : Nat} {u v : Value} {y x : Int} {w : World} (h : CDy w u y (-1074)) (h' : CDy w v x (-1074)) (hy : y.natAbs < 2 ^ 2098) (hx : x.natAbs < 2 ^ 2098) (e1 : ¬ y = 0) (e2 : f = 33) (hT : TabAt 0 Lib.deBruijn64tab w) :
    Calls Tryd.prog 23 #[.int .u8 f, u, v] w fun en w' => ∃ v', en = .returned v' ∧ PO w' w.heap.size v' (none) ∧ Below w.heap.size w w' := by
  obtain ⟨b0, A, n0, c, x0, rfl⟩ := h.ex
  obtain ⟨c0, B, m0, d, y0, rfl⟩ := h'.ex
  have HT := Aside0.mk hT
  have HY := Aside0.mk h
  have HX := Aside0.mk h'
  have OY := Aside0.mk (ok_z hy)
  have OX := Aside0.mk (ok_z hx)
  have OAY := Aside0.mk (ok_z (z := (y.natAbs : Int)) (by rw [Int.natAbs_natCast]; exact hy))
  have OAX := Aside0.mk (ok_z (z := (x.natAbs : Int)) (by rw [Int.natAbs_natCast]; exact hx))
  have hd : decide (y = 0) = false := decide_eq_false e1
  have hff : ((f : Int) == 33) = true := by simp; omega
  clear h h' hy hx hT e1 e2
  go_enter Tryd.func23, Tryd.ntmps23
  have BEL : Aside0 (BelN w 3 (((w.alloc (.cells #[.bool b0, .slice A n0 c, .int .i64 x0] 27)).alloc (.cells #[.bool c0, .slice B m0 d, .int .i64 y0] 27)).alloc (.cells #[.bool false, .slice none 0 0, .int .i64 0, .bool false] 51))) := ⟨((((BelN.zero w).alloc _).alloc _).alloc _).less (by decide)⟩
  have XY : Aside0 ((((w.alloc (.cells #[.bool b0, .slice A n0 c, .int .i64 x0] 27)).alloc (.cells #[.bool c0, .slice B m0 d, .int .i64 y0] 27)).alloc (.cells #[.bool false, .slice none 0 0, .int .i64 0, .bool false] 51)).heap[w.heap.size]? = some (.cells #[.bool b0, .slice A n0 c, .int .i64 x0] 27 (0, 0))) := ⟨by have h := blk_new w (.cells #[.bool b0, .slice A n0 c, .int .i64 x0] 27); exact blk_alloc (blk_alloc (h) _) _⟩
  have XX : Aside0 ((((w.alloc (.cells #[.bool b0, .slice A n0 c, .int .i64 x0] 27)).alloc (.cells #[.bool c0, .slice B m0 d, .int .i64 y0] 27)).alloc (.cells #[.bool false, .slice none 0 0, .int .i64 0, .bool false] 51)).heap[w.heap.size + 1]? = some (.cells #[.bool c0, .slice B m0 d, .int .i64 y0] 27 (0, 0))) := ⟨by have h := blk_new (w.alloc (.cells #[.bool b0, .slice A n0 c, .int .i64 x0] 27)) (.cells #[.bool c0, .slice B m0 d, .int .i64 y0] 27); rw [size_alloc'] at h; exact blk_alloc (h) _⟩
  have XR : Aside0 ((((w.alloc (.cells #[.bool b0, .slice A n0 c, .int .i64 x0] 27)).alloc (.cells #[.bool c0, .slice B m0 d, .int .i64 y0] 27)).alloc (.cells #[.bool false, .slice none 0 0, .int .i64 0, .bool false] 51)).heap[w.heap.size + 1 + 1]? = some (.cells #[.bool false, .slice none 0 0, .int .i64 0, .bool false] 51 (0, 0))) := ⟨by have h := blk_new ((w.alloc (.cells #[.bool b0, .slice A n0 c, .int .i64 x0] 27)).alloc (.cells #[.bool c0, .slice B m0 d, .int .i64 y0] 27)) (.cells #[.bool false, .slice none 0 0, .int .i64 0, .bool false] 51); rw [size_alloc', size_alloc'] at h; exact h⟩
  obtain ⟨q0, q0'⟩ := box_cell XY.out 0 rfl
  obtain ⟨q1, q1'⟩ := box_cell XY.out 1 rfl
  obtain ⟨q2, q2'⟩ := box_cell XY.out 2 rfl
  go_wp2_with fail
  clear q0 q0' q1 q1' q2 q2'
  go_at_call 22
  refine (zero_ok (HY.out.below BEL.out.1) OY.out).mono ?_
  rintro en1 w1 ⟨rfl, hb⟩
  replace BEL := Aside0.mk (BEL.out.next hb)
  replace XY := Aside0.mk (blk_below XY.out hb)
  replace XX := Aside0.mk (blk_below XX.out hb)
  replace XR := Aside0.mk (blk_below XR.out hb)
  clear hb
  go_wp2_with (((with_reducible refine gate_store (p := 6) rfl ?_); go_must (refine store_box 51 6 (.tmp 18) rfl rfl rfl (g := w.heap.size + 1 + 1) (e := 51) (.agg #[.bool false, .slice none 0 0, .int .i64 0, .bool false]) ([.bool false, .slice none 0 0, .int .i64 0, .bool false]) rfl rfl rfl info_told ?b1 XR.out rfl ?_; (case b1 => intro q hq; simp at hq; rcases hq with rfl | rfl | rfl | rfl <;> rfl); intro wb hbx hgx; have HX := Aside0.mk hbx; have HG := Aside0.mk hgx; clear hbx hgx)); replace BEL := Aside0.mk (BEL.out.grown HG.out (by omega)); replace XY := Aside0.mk (blk_grown XY.out HG.out (by omega)); replace XX := Aside0.mk (blk_grown XX.out HG.out (by omega)); replace XR := HX; clear HG)
  refine bodyPost_ret (results_told rfl _ _ (w.heap.size + 1 + 1) _ rfl XR.out rfl) rfl ?_
  exact ⟨_, rfl, PO.none _ _, BEL.out.1⟩

set_option maxRecDepth 100000 in
set_option maxHeartbeats 8000000 in
theorem ang_c {f : Nat} {u v : Value} {y x : Int} {w : World} (h : CDy w u y (-1074)) (h' : CDy w v x (-1074)) (hy : y.natAbs < 2 ^ 2098) (hx : x.natAbs < 2 ^ 2098) (e1 : y = 0) (e3 : ¬ 0 < x) (e2 : f = 33) (hT : TabAt 0 Lib.deBruijn64tab w) :
    Calls Tryd.prog 23 #[.int .u8 f, u, v] w fun en w' => ∃ v', en = .returned v' ∧ PO w' w.heap.size v' (none) ∧ Below w.heap.size w w' := by
  obtain ⟨b0, A, n0, c, x0, rfl⟩ := h.ex
  obtain ⟨c0, B, m0, d, y0, rfl⟩ := h'.ex
  have HT := Aside0.mk hT
  have HY := Aside0.mk h
  have HX := Aside0.mk h'
  have OY := Aside0.mk (ok_z hy)
  have OX := Aside0.mk (ok_z hx)
  have OAY := Aside0.mk (ok_z (z := (y.natAbs : Int)) (by rw [Int.natAbs_natCast]; exact hy))
  have OAX := Aside0.mk (ok_z (z := (x.natAbs : Int)) (by rw [Int.natAbs_natCast]; exact hx))
  have hd : decide (y = 0) = true := decide_eq_true e1
  have hs : decide (0 < sgnI x) = false := by rw [sgn_pos]; exact decide_eq_false e3
  have hff : ((f : Int) == 33) = true := by simp; omega
  clear h h' hy hx hT e1 e2 e3
  go_enter Tryd.func23, Tryd.ntmps23
  have BEL : Aside0 (BelN w 3 (((w.alloc (.cells #[.bool b0, .slice A n0 c, .int .i64 x0] 27)).alloc (.cells #[.bool c0, .slice B m0 d, .int .i64 y0] 27)).alloc (.cells #[.bool false, .slice none 0 0, .int .i64 0, .bool false] 51))) := ⟨((((BelN.zero w).alloc _).alloc _).alloc _).less (by decide)⟩
  have XY : Aside0 ((((w.alloc (.cells #[.bool b0, .slice A n0 c, .int .i64 x0] 27)).alloc (.cells #[.bool c0, .slice B m0 d, .int .i64 y0] 27)).alloc (.cells #[.bool false, .slice none 0 0, .int .i64 0, .bool false] 51)).heap[w.heap.size]? = some (.cells #[.bool b0, .slice A n0 c, .int .i64 x0] 27 (0, 0))) := ⟨by have h := blk_new w (.cells #[.bool b0, .slice A n0 c, .int .i64 x0] 27); exact blk_alloc (blk_alloc (h) _) _⟩
  have XX : Aside0 ((((w.alloc (.cells #[.bool b0, .slice A n0 c, .int .i64 x0] 27)).alloc (.cells #[.bool c0, .slice B m0 d, .int .i64 y0] 27)).alloc (.cells #[.bool false, .slice none 0 0, .int .i64 0, .bool false] 51)).heap[w.heap.size + 1]? = some (.cells #[.bool c0, .slice B m0 d, .int .i64 y0] 27 (0, 0))) := ⟨by have h := blk_new (w.alloc (.cells #[.bool b0, .slice A n0 c, .int .i64 x0] 27)) (.cells #[.bool c0, .slice B m0 d, .int .i64 y0] 27); rw [size_alloc'] at h; exact blk_alloc (h) _⟩
  have XR : Aside0 ((((w.alloc (.cells #[.bool b0, .slice A n0 c, .int .i64 x0] 27)).alloc (.cells #[.bool c0, .slice B m0 d, .int .i64 y0] 27)).alloc (.cells #[.bool false, .slice none 0 0, .int .i64 0, .bool false] 51)).heap[w.heap.size + 1 + 1]? = some (.cells #[.bool false, .slice none 0 0, .int .i64 0, .bool false] 51 (0, 0))) := ⟨by have h := blk_new ((w.alloc (.cells #[.bool b0, .slice A n0 c, .int .i64 x0] 27)).alloc (.cells #[.bool c0, .slice B m0 d, .int .i64 y0] 27)) (.cells #[.bool false, .slice none 0 0, .int .i64 0, .bool false] 51); rw [size_alloc', size_alloc'] at h; exact h⟩
  obtain ⟨q0, q0'⟩ := box_cell XY.out 0 rfl
  obtain ⟨q1, q1'⟩ := box_cell XY.out 1 rfl
  obtain ⟨q2, q2'⟩ := box_cell XY.out 2 rfl
  go_wp2_with fail
  clear q0 q0' q1 q1' q2 q2'
  go_at_call 22
  refine (zero_ok (HY.out.below BEL.out.1) OY.out).mono ?_
  rintro en1 w1 ⟨rfl, hb⟩
  replace BEL := Aside0.mk (BEL.out.next hb)
  replace XY := Aside0.mk (blk_below XY.out hb)
  replace XX := Aside0.mk (blk_below XX.out hb)
  replace XR := Aside0.mk (blk_below XR.out hb)
  clear hb
  obtain ⟨q3, q3'⟩ := box_cell XX.out 0 rfl
  obtain ⟨q4, q4'⟩ := box_cell XX.out 1 rfl
  obtain ⟨q5, q5'⟩ := box_cell XX.out 2 rfl
  go_wp2_with fail
  clear q3 q3' q4 q4' q5 q5'
  go_at_call 45
  refine (sign_ok (HX.out.below BEL.out.1) OX.out).mono ?_
  rintro en2 w2 ⟨rfl, hb⟩
  replace BEL := Aside0.mk (BEL.out.next hb)
  replace XY := Aside0.mk (blk_below XY.out hb)
  replace XX := Aside0.mk (blk_below XX.out hb)
  replace XR := Aside0.mk (blk_below XR.out hb)
  clear hb
  go_wp2_with (((with_reducible refine gate_store (p := 6) rfl ?_); go_must (refine store_box 51 6 (.tmp 18) rfl rfl rfl (g := w.heap.size + 1 + 1) (e := 51) (.agg #[.bool false, .slice none 0 0, .int .i64 0, .bool false]) ([.bool false, .slice none 0 0, .int .i64 0, .bool false]) rfl rfl rfl info_told ?b1 XR.out rfl ?_; (case b1 => intro q hq; simp at hq; rcases hq with rfl | rfl | rfl | rfl <;> rfl); intro wb hbx hgx; have HX := Aside0.mk hbx; have HG := Aside0.mk hgx; clear hbx hgx)); replace BEL := Aside0.mk (BEL.out.grown HG.out (by omega)); replace XY := Aside0.mk (blk_grown XY.out HG.out (by omega)); replace XX := Aside0.mk (blk_grown XX.out HG.out (by omega)); replace XR := HX; clear HG)
  refine bodyPost_ret (results_told rfl _ _ (w.heap.size + 1 + 1) _ rfl XR.out rfl) rfl ?_
  exact ⟨_, rfl, PO.none _ _, BEL.out.1⟩

set_option maxRecDepth 100000 in
set_option maxHeartbeats 8000000 in
theorem ang_d {f : Nat} {u v : Value} {y x : Int} {w : World} (h : CDy w u y (-1074)) (h' : CDy w v x (-1074)) (hy : y.natAbs < 2 ^ 2098) (hx : x.natAbs < 2 ^ 2098) (e1 : y = 0) (e3 : ¬ 0 < x) (e2 : ¬ f = 33) (hT : TabAt 0 Lib.deBruijn64tab w) :
    Calls Tryd.prog 23 #[.int .u8 f, u, v] w fun en w' => ∃ v', en = .returned v' ∧ PO w' w.heap.size v' (some (1, 0)) ∧ Below w.heap.size w w' := by
  obtain ⟨b0, A, n0, c, x0, rfl⟩ := h.ex
  obtain ⟨c0, B, m0, d, y0, rfl⟩ := h'.ex
  have HT := Aside0.mk hT
  have HY := Aside0.mk h
  have HX := Aside0.mk h'
  have OY := Aside0.mk (ok_z hy)
  have OX := Aside0.mk (ok_z hx)
  have OAY := Aside0.mk (ok_z (z := (y.natAbs : Int)) (by rw [Int.natAbs_natCast]; exact hy))
  have OAX := Aside0.mk (ok_z (z := (x.natAbs : Int)) (by rw [Int.natAbs_natCast]; exact hx))
  have hd : decide (y = 0) = true := decide_eq_true e1
  have hs : decide (0 < sgnI x) = false := by rw [sgn_pos]; exact decide_eq_false e3
  have hff : ((f : Int) == 33) = false := by simp; omega
  clear h h' hy hx hT e1 e2 e3
  go_enter Tryd.func23, Tryd.ntmps23
  have BEL : Aside0 (BelN w 3 (((w.alloc (.cells #[.bool b0, .slice A n0 c, .int .i64 x0] 27)).alloc (.cells #[.bool c0, .slice B m0 d, .int .i64 y0] 27)).alloc (.cells #[.bool false, .slice none 0 0, .int .i64 0, .bool false] 51))) := ⟨((((BelN.zero w).alloc _).alloc _).alloc _).less (by decide)⟩
  have XY : Aside0 ((((w.alloc (.cells #[.bool b0, .slice A n0 c, .int .i64 x0] 27)).alloc (.cells #[.bool c0, .slice B m0 d, .int .i64 y0] 27)).alloc (.cells #[.bool false, .slice none 0 0, .int .i64 0, .bool false] 51)).heap[w.heap.size]? = some (.cells #[.bool b0, .slice A n0 c, .int .i64 x0] 27 (0, 0))) := ⟨by have h := blk_new w (.cells #[.bool b0, .slice A n0 c, .int .i64 x0] 27); exact blk_alloc (blk_alloc (h) _) _⟩
  have XX : Aside0 ((((w.alloc (.cells #[.bool b0, .slice A n0 c, .int .i64 x0] 27)).alloc (.cells #[.bool c0, .slice B m0 d, .int .i64 y0] 27)).alloc (.cells #[.bool false, .slice none 0 0, .int .i64 0, .bool false] 51)).heap[w.heap.size + 1]? = some (.cells #[.bool c0, .slice B m0 d, .int .i64 y0] 27 (0, 0))) := ⟨by have h := blk_new (w.alloc (.cells #[.bool b0, .slice A n0 c, .int .i64 x0] 27)) (.cells #[.bool c0, .slice B m0 d, .int .i64 y0] 27); rw [size_alloc'] at h; exact blk_alloc (h) _⟩
  have XR : Aside0 ((((w.alloc (.cells #[.bool b0, .slice A n0 c, .int .i64 x0] 27)).alloc (.cells #[.bool c0, .slice B m0 d, .int .i64 y0] 27)).alloc (.cells #[.bool false, .slice none 0 0, .int .i64 0, .bool false] 51)).heap[w.heap.size + 1 + 1]? = some (.cells #[.bool false, .slice none 0 0, .int .i64 0, .bool false] 51 (0, 0))) := ⟨by have h := blk_new ((w.alloc (.cells #[.bool b0, .slice A n0 c, .int .i64 x0] 27)).alloc (.cells #[.bool c0, .slice B m0 d, .int .i64 y0] 27)) (.cells #[.bool false, .slice none 0 0, .int .i64 0, .bool false] 51); rw [size_alloc', size_alloc'] at h; exact h⟩
  obtain ⟨q0, q0'⟩ := box_cell XY.out 0 rfl
  obtain ⟨q1, q1'⟩ := box_cell XY.out 1 rfl
  obtain ⟨q2, q2'⟩ := box_cell XY.out 2 rfl
  go_wp2_with fail
  clear q0 q0' q1 q1' q2 q2'
  go_at_call 22
  refine (zero_ok (HY.out.below BEL.out.1) OY.out).mono ?_
  rintro en1 w1 ⟨rfl, hb⟩
  replace BEL := Aside0.mk (BEL.out.next hb)
  replace XY := Aside0.mk (blk_below XY.out hb)
  replace XX := Aside0.mk (blk_below XX.out hb)
  replace XR := Aside0.mk (blk_below XR.out hb)
  clear hb
  obtain ⟨q3, q3'⟩ := box_cell XX.out 0 rfl
  obtain ⟨q4, q4'⟩ := box_cell XX.out 1 rfl
  obtain ⟨q5, q5'⟩ := box_cell XX.out 2 rfl
  go_wp2_with fail
  clear q3 q3' q4 q4' q5 q5'
  go_at_call 45
  refine (sign_ok (HX.out.below BEL.out.1) OX.out).mono ?_
  rintro en2 w2 ⟨rfl, hb⟩
  replace BEL := Aside0.mk (BEL.out.next hb)
  replace XY := Aside0.mk (blk_below XY.out hb)
  replace XX := Aside0.mk (blk_below XX.out hb)
  replace XR := Aside0.mk (blk_below XR.out hb)
  clear hb
  obtain ⟨q6, q6'⟩ := box_cell XY.out 0 rfl
  obtain ⟨q7, q7'⟩ := box_cell XY.out 1 rfl
  obtain ⟨q8, q8'⟩ := box_cell XY.out 2 rfl
  go_wp2_with fail
  clear q6 q6' q7 q7' q8 q8'
  go_at_call 45
  refine (sign_ok (HY.out.below BEL.out.1) OY.out).mono ?_
  rintro en3 w3 ⟨rfl, hb⟩
  replace BEL := Aside0.mk (BEL.out.next hb)
  replace XY := Aside0.mk (blk_below XY.out hb)
  replace XX := Aside0.mk (blk_below XX.out hb)
  replace XR := Aside0.mk (blk_below XR.out hb)
  clear hb
  obtain ⟨q9, q9'⟩ := box_cell XY.out 0 rfl
  obtain ⟨q10, q10'⟩ := box_cell XY.out 1 rfl
  obtain ⟨q11, q11'⟩ := box_cell XY.out 2 rfl
  go_wp2_with fail
  clear q9 q9' q10 q10' q11 q11'
  go_at_call 22
  refine (zero_ok (HY.out.below BEL.out.1) OY.out).mono ?_
  rintro en4 w4 ⟨rfl, hb⟩
  replace BEL := Aside0.mk (BEL.out.next hb)
  replace XY := Aside0.mk (blk_below XY.out hb)
  replace XX := Aside0.mk (blk_below XX.out hb)
  replace XR := Aside0.mk (blk_below XR.out hb)
  clear hb
  go_wp2_with fail
  have BLW := BEL
  go_at_call 46
  refine (whole_any (1) _ (by decide) (by decide) (tab_below HT.out BEL.out.1)).mono ?_
  rintro en5 w5 ⟨v5, rfl, hr, hb⟩
  replace BEL := Aside0.mk (BEL.out.next hb)
  replace XY := Aside0.mk (blk_below XY.out hb)
  replace XX := Aside0.mk (blk_below XX.out hb)
  replace XR := Aside0.mk (blk_below XR.out hb)
  have P1 := Aside0.mk hr
  obtain ⟨b5, A5, n5, c5, x5, rfl⟩ := hr.ex5
  clear hr hb
  go_wp2_with (((with_reducible refine gate_store (p := 6) rfl ?_); go_must (refine store_box 51 6 (.tmp 24) rfl rfl rfl (g := w.heap.size + 1 + 1) (e := 51) (.agg #[.bool b5, .slice A5 n5 c5, .int .i64 x5, .bool true]) ([.bool b5, .slice A5 n5 c5, .int .i64 x5, .bool true]) rfl rfl rfl info_told ?b1 XR.out rfl ?_; (case b1 => intro q hq; simp at hq; rcases hq with rfl | rfl | rfl | rfl <;> rfl); intro wb hbx hgx; have HX := Aside0.mk hbx; have HG := Aside0.mk hgx; clear hbx hgx)); replace P1 := Aside0.mk (P1.out.grown_box XR.out (by decide) HG.out); replace BEL := Aside0.mk (BEL.out.grown HG.out (by omega)); replace XY := Aside0.mk (blk_grown XY.out HG.out (by omega)); replace XX := Aside0.mk (blk_grown XX.out HG.out (by omega)); replace XR := HX; clear HG)
  refine bodyPost_ret (results_told rfl _ _ (w.heap.size + 1 + 1) _ rfl XR.out rfl) rfl ?_
  exact ⟨_, rfl, P1.out.some.lower (Nat.le_trans (Nat.le_add_right _ _) BLW.out.2), BEL.out.1⟩

set_option maxRecDepth 100000 in
set_option maxHeartbeats 8000000 in
theorem ang_e {f : Nat} {u v : Value} {y x : Int} {w : World} (h : CDy w u y (-1074)) (h' : CDy w v x (-1074)) (hy : y.natAbs < 2 ^ 2098) (hx : x.natAbs < 2 ^ 2098) (e1 : ¬ y = 0) (e3 : x = 0) (e2 : ¬ f = 33) (hT : TabAt 0 Lib.deBruijn64tab w) :
    Calls Tryd.prog 23 #[.int .u8 f, u, v] w fun en w' => ∃ v', en = .returned v' ∧ PO w' w.heap.size v' (some (sgnI y, 0 + -1)) ∧ Below w.heap.size w w' := by
  obtain ⟨b0, A, n0, c, x0, rfl⟩ := h.ex
  obtain ⟨c0, B, m0, d, y0, rfl⟩ := h'.ex
  have HT := Aside0.mk hT
  have HY := Aside0.mk h
  have HX := Aside0.mk h'
  have OY := Aside0.mk (ok_z hy)
  have OX := Aside0.mk (ok_z hx)
  have OAY := Aside0.mk (ok_z (z := (y.natAbs : Int)) (by rw [Int.natAbs_natCast]; exact hy))
  have OAX := Aside0.mk (ok_z (z := (x.natAbs : Int)) (by rw [Int.natAbs_natCast]; exact hx))
  have hd : decide (y = 0) = false := decide_eq_false e1
  have hdx : decide (x = 0) = true := decide_eq_true e3
  have hff : ((f : Int) == 33) = false := by simp; omega
  clear h h' hy hx hT e1 e2 e3
  go_enter Tryd.func23, Tryd.ntmps23
  have BEL : Aside0 (BelN w 3 (((w.alloc (.cells #[.bool b0, .slice A n0 c, .int .i64 x0] 27)).alloc (.cells #[.bool c0, .slice B m0 d, .int .i64 y0] 27)).alloc (.cells #[.bool false, .slice none 0 0, .int .i64 0, .bool false] 51))) := ⟨((((BelN.zero w).alloc _).alloc _).alloc _).less (by decide)⟩
  have XY : Aside0 ((((w.alloc (.cells #[.bool b0, .slice A n0 c, .int .i64 x0] 27)).alloc (.cells #[.bool c0, .slice B m0 d, .int .i64 y0] 27)).alloc (.cells #[.bool false, .slice none 0 0, .int .i64 0, .bool false] 51)).heap[w.heap.size]? = some (.cells #[.bool b0, .slice A n0 c, .int .i64 x0] 27 (0, 0))) := ⟨by have h := blk_new w (.cells #[.bool b0, .slice A n0 c, .int .i64 x0] 27); exact blk_alloc (blk_alloc (h) _) _⟩
  have XX : Aside0 ((((w.alloc (.cells #[.bool b0, .slice A n0 c, .int .i64 x0] 27)).alloc (.cells #[.bool c0, .slice B m0 d, .int .i64 y0] 27)).alloc (.cells #[.bool false, .slice none 0 0, .int .i64 0, .bool false] 51)).heap[w.heap.size + 1]? = some (.cells #[.bool c0, .slice B m0 d, .int .i64 y0] 27 (0, 0))) := ⟨by have h := blk_new (w.alloc (.cells #[.bool b0, .slice A n0 c, .int .i64 x0] 27)) (.cells #[.bool c0, .slice B m0 d, .int .i64 y0] 27); rw [size_alloc'] at h; exact blk_alloc (h) _⟩
  have XR : Aside0 ((((w.alloc (.cells #[.bool b0, .slice A n0 c, .int .i64 x0] 27)).alloc (.cells #[.bool c0, .slice B m0 d, .int .i64 y0] 27)).alloc (.cells #[.bool false, .slice none 0 0, .int .i64 0, .bool false] 51)).heap[w.heap.size + 1 + 1]? = some (.cells #[.bool false, .slice none 0 0, .int .i64 0, .bool false] 51 (0, 0))) := ⟨by have h := blk_new ((w.alloc (.cells #[.bool b0, .slice A n0 c, .int .i64 x0] 27)).alloc (.cells #[.bool c0, .slice B m0 d, .int .i64 y0] 27)) (.cells #[.bool false, .slice none 0 0, .int .i64 0, .bool false] 51); rw [size_alloc', size_alloc'] at h; exact h⟩
  obtain ⟨q0, q0'⟩ := box_cell XY.out 0 rfl
  obtain ⟨q1, q1'⟩ := box_cell XY.out 1 rfl
  obtain ⟨q2, q2'⟩ := box_cell XY.out 2 rfl
  go_wp2_with fail
  clear q0 q0' q1 q1' q2 q2'
  go_at_call 22
  refine (zero_ok (HY.out.below BEL.out.1) OY.out).mono ?_
  rintro en1 w1 ⟨rfl, hb⟩
  replace BEL := Aside0.mk (BEL.out.next hb)
  replace XY := Aside0.mk (blk_below XY.out hb)
  replace XX := Aside0.mk (blk_below XX.out hb)
  replace XR := Aside0.mk (blk_below XR.out hb)
  clear hb
  obtain ⟨q3, q3'⟩ := box_cell XY.out 0 rfl
  obtain ⟨q4, q4'⟩ := box_cell XY.out 1 rfl
  obtain ⟨q5, q5'⟩ := box_cell XY.out 2 rfl
  go_wp2_with fail
  clear q3 q3' q4 q4' q5 q5'
  go_at_call 45
  refine (sign_ok (HY.out.below BEL.out.1) OY.out).mono ?_
  rintro en2 w2 ⟨rfl, hb⟩
  replace BEL := Aside0.mk (BEL.out.next hb)
  replace XY := Aside0.mk (blk_below XY.out hb)
  replace XX := Aside0.mk (blk_below XX.out hb)
  replace XR := Aside0.mk (blk_below XR.out hb)
  clear hb
  obtain ⟨q6, q6'⟩ := box_cell XY.out 0 rfl
  obtain ⟨q7, q7'⟩ := box_cell XY.out 1 rfl
  obtain ⟨q8, q8'⟩ := box_cell XY.out 2 rfl
  go_wp2_with fail
  clear q6 q6' q7 q7' q8 q8'
  go_at_call 22
  refine (zero_ok (HY.out.below BEL.out.1) OY.out).mono ?_
  rintro en3 w3 ⟨rfl, hb⟩
  replace BEL := Aside0.mk (BEL.out.next hb)
  replace XY := Aside0.mk (blk_below XY.out hb)
  replace XX := Aside0.mk (blk_below XX.out hb)
  replace XR := Aside0.mk (blk_below XR.out hb)
  clear hb
  obtain ⟨q9, q9'⟩ := box_cell XX.out 0 rfl
  obtain ⟨q10, q10'⟩ := box_cell XX.out 1 rfl
  obtain ⟨q11, q11'⟩ := box_cell XX.out 2 rfl
  go_wp2_with fail
  clear q9 q9' q10 q10' q11 q11'
  go_at_call 22
  refine (zero_ok (HX.out.below BEL.out.1) OX.out).mono ?_
  rintro en4 w4 ⟨rfl, hb⟩
  replace BEL := Aside0.mk (BEL.out.next hb)
  replace XY := Aside0.mk (blk_below XY.out hb)
  replace XX := Aside0.mk (blk_below XX.out hb)
  replace XR := Aside0.mk (blk_below XR.out hb)
  clear hb
  go_wp2_with fail
  have BLW := BEL
  go_at_call 47
  refine (part_any (sgnI y) 1 _ (sgnI_small y) (by decide) (by decide) (tab_below HT.out BEL.out.1)).mono ?_
  rintro en5 w5 ⟨v5, rfl, hr, hb⟩
  replace BEL := Aside0.mk (BEL.out.next hb)
  replace XY := Aside0.mk (blk_below XY.out hb)
  replace XX := Aside0.mk (blk_below XX.out hb)
  replace XR := Aside0.mk (blk_below XR.out hb)
  have P1 := Aside0.mk hr
  obtain ⟨b5, A5, n5, c5, x5, rfl⟩ := hr.ex5
  clear hr hb
  go_wp2_with (((with_reducible refine gate_store (p := 6) rfl ?_); go_must (refine store_box 51 6 (.tmp 29) rfl rfl rfl (g := w.heap.size + 1 + 1) (e := 51) (.agg #[.bool b5, .slice A5 n5 c5, .int .i64 x5, .bool true]) ([.bool b5, .slice A5 n5 c5, .int .i64 x5, .bool true]) rfl rfl rfl info_told ?b1 XR.out rfl ?_; (case b1 => intro q hq; simp at hq; rcases hq with rfl | rfl | rfl | rfl <;> rfl); intro wb hbx hgx; have HX := Aside0.mk hbx; have HG := Aside0.mk hgx; clear hbx hgx)); replace P1 := Aside0.mk (P1.out.grown_box XR.out (by decide) HG.out); replace BEL := Aside0.mk (BEL.out.grown HG.out (by omega)); replace XY := Aside0.mk (blk_grown XY.out HG.out (by omega)); replace XX := Aside0.mk (blk_grown XX.out HG.out (by omega)); replace XR := HX; clear HG)
  refine bodyPost_ret (results_told rfl _ _ (w.heap.size + 1 + 1) _ rfl XR.out rfl) rfl ?_
  exact ⟨_, rfl, P1.out.some.lower (Nat.le_trans (Nat.le_add_right _ _) BLW.out.2), BEL.out.1⟩

set_option maxRecDepth 100000 in
set_option maxHeartbeats 8000000 in
theorem ang_f {f : Nat} {u v : Value} {y x : Int} {w : World} (h : CDy w u y (-1074)) (h' : CDy w v x (-1074)) (hy : y.natAbs < 2 ^ 2098) (hx : x.natAbs < 2 ^ 2098) (e1 : ¬ y = 0) (e3 : ¬ x = 0) (e2 : ¬ f = 33) (e4 : ¬ (y.natAbs : Int) = x.natAbs) (hT : TabAt 0 Lib.deBruijn64tab w) :
    Calls Tryd.prog 23 #[.int .u8 f, u, v] w fun en w' => ∃ v', en = .returned v' ∧ PO w' w.heap.size v' (none) ∧ Below w.heap.size w w' := by
  obtain ⟨b0, A, n0, c, x0, rfl⟩ := h.ex
  obtain ⟨c0, B, m0, d, y0, rfl⟩ := h'.ex
  have HT := Aside0.mk hT
  have HY := Aside0.mk h
  have HX := Aside0.mk h'
  have OY := Aside0.mk (ok_z hy)
  have OX := Aside0.mk (ok_z hx)
  have OAY := Aside0.mk (ok_z (z := (y.natAbs : Int)) (by rw [Int.natAbs_natCast]; exact hy))
  have OAX := Aside0.mk (ok_z (z := (x.natAbs : Int)) (by rw [Int.natAbs_natCast]; exact hx))
  have hd : decide (y = 0) = false := decide_eq_false e1
  have hdx : decide (x = 0) = false := decide_eq_false e3
  have hff : ((f : Int) == 33) = false := by simp; omega
  have HCE : Aside0 ((cmpZ (y.natAbs : Int) (x.natAbs : Int) != 0) = true) := ⟨by rw [cmpZ_ne]; simp; exact e4⟩
  clear h h' hy hx hT e1 e2 e3 e4
  go_enter Tryd.func23, Tryd.ntmps23
  have BEL : Aside0 (BelN w 3 (((w.alloc (.cells #[.bool b0, .slice A n0 c, .int .i64 x0] 27)).alloc (.cells #[.bool c0, .slice B m0 d, .int .i64 y0] 27)).alloc (.cells #[.bool false, .slice none 0 0, .int .i64 0, .bool false] 51))) := ⟨((((BelN.zero w).alloc _).alloc _).alloc _).less (by decide)⟩
  have XY : Aside0 ((((w.alloc (.cells #[.bool b0, .slice A n0 c, .int .i64 x0] 27)).alloc (.cells #[.bool c0, .slice B m0 d, .int .i64 y0] 27)).alloc (.cells #[.bool false, .slice none 0 0, .int .i64 0, .bool false] 51)).heap[w.heap.size]? = some (.cells #[.bool b0, .slice A n0 c, .int .i64 x0] 27 (0, 0))) := ⟨by have h := blk_new w (.cells #[.bool b0, .slice A n0 c, .int .i64 x0] 27); exact blk_alloc (blk_alloc (h) _) _⟩
  have XX : Aside0 ((((w.alloc (.cells #[.bool b0, .slice A n0 c, .int .i64 x0] 27)).alloc (.cells #[.bool c0, .slice B m0 d, .int .i64 y0] 27)).alloc (.cells #[.bool false, .slice none 0 0, .int .i64 0, .bool false] 51)).heap[w.heap.size + 1]? = some (.cells #[.bool c0, .slice B m0 d, .int .i64 y0] 27 (0, 0))) := ⟨by have h := blk_new (w.alloc (.cells #[.bool b0, .slice A n0 c, .int .i64 x0] 27)) (.cells #[.bool c0, .slice B m0 d, .int .i64 y0] 27); rw [size_alloc'] at h; exact blk_alloc (h) _⟩
  have XR : Aside0 ((((w.alloc (.cells #[.bool b0, .slice A n0 c, .int .i64 x0] 27)).alloc (.cells #[.bool c0, .slice B m0 d, .int .i64 y0] 27)).alloc (.cells #[.bool false, .slice none 0 0, .int .i64 0, .bool false] 51)).heap[w.heap.size + 1 + 1]? = some (.cells #[.bool false, .slice none 0 0, .int .i64 0, .bool false] 51 (0, 0))) := ⟨by have h := blk_new ((w.alloc (.cells #[.bool b0, .slice A n0 c, .int .i64 x0] 27)).alloc (.cells #[.bool c0, .slice B m0 d, .int .i64 y0] 27)) (.cells #[.bool false, .slice none 0 0, .int .i64 0, .bool false] 51); rw [size_alloc', size_alloc'] at h; exact h⟩
  obtain ⟨q0, q0'⟩ := box_cell XY.out 0 rfl
  obtain ⟨q1, q1'⟩ := box_cell XY.out 1 rfl
  obtain ⟨q2, q2'⟩ := box_cell XY.out 2 rfl
  go_wp2_with fail
  clear q0 q0' q1 q1' q2 q2'
  go_at_call 22
  refine (zero_ok (HY.out.below BEL.out.1) OY.out).mono ?_
  rintro en1 w1 ⟨rfl, hb⟩
  replace BEL := Aside0.mk (BEL.out.next hb)
  replace XY := Aside0.mk (blk_below XY.out hb)
  replace XX := Aside0.mk (blk_below XX.out hb)
  replace XR := Aside0.mk (blk_below XR.out hb)
  clear hb
  obtain ⟨q3, q3'⟩ := box_cell XY.out 0 rfl
  obtain ⟨q4, q4'⟩ := box_cell XY.out 1 rfl
  obtain ⟨q5, q5'⟩ := box_cell XY.out 2 rfl
  go_wp2_with fail
  clear q3 q3' q4 q4' q5 q5'
  go_at_call 45
  refine (sign_ok (HY.out.below BEL.out.1) OY.out).mono ?_
  rintro en2 w2 ⟨rfl, hb⟩
  replace BEL := Aside0.mk (BEL.out.next hb)
  replace XY := Aside0.mk (blk_below XY.out hb)
  replace XX := Aside0.mk (blk_below XX.out hb)
  replace XR := Aside0.mk (blk_below XR.out hb)
  clear hb
  obtain ⟨q6, q6'⟩ := box_cell XY.out 0 rfl
  obtain ⟨q7, q7'⟩ := box_cell XY.out 1 rfl
  obtain ⟨q8, q8'⟩ := box_cell XY.out 2 rfl
  go_wp2_with fail
  clear q6 q6' q7 q7' q8 q8'
  go_at_call 22
  refine (zero_ok (HY.out.below BEL.out.1) OY.out).mono ?_
  rintro en3 w3 ⟨rfl, hb⟩
  replace BEL := Aside0.mk (BEL.out.next hb)
  replace XY := Aside0.mk (blk_below XY.out hb)
  replace XX := Aside0.mk (blk_below XX.out hb)
  replace XR := Aside0.mk (blk_below XR.out hb)
  clear hb
  obtain ⟨q9, q9'⟩ := box_cell XX.out 0 rfl
  obtain ⟨q10, q10'⟩ := box_cell XX.out 1 rfl
  obtain ⟨q11, q11'⟩ := box_cell XX.out 2 rfl
  go_wp2_with fail
  clear q9 q9' q10 q10' q11 q11'
  go_at_call 22
  refine (zero_ok (HX.out.below BEL.out.1) OX.out).mono ?_
  rintro en4 w4 ⟨rfl, hb⟩
  replace BEL := Aside0.mk (BEL.out.next hb)
  replace XY := Aside0.mk (blk_below XY.out hb)
  replace XX := Aside0.mk (blk_below XX.out hb)
  replace XR := Aside0.mk (blk_below XR.out hb)
  clear hb
  go_upto_region 10 with fail
  obtain ⟨GM, hGM⟩ : ∃ G : (Nat → Prop) → (Nat → Value) → World → Prop, G = fun L v W => BelN w 3 W ∧ W.heap[w.heap.size]? = some (.cells #[.bool b0, .slice A n0 c, .int .i64 x0] 27 (0, 0)) ∧ W.heap[w.heap.size + 1]? = some (.cells #[.bool c0, .slice B m0 d, .int .i64 y0] 27 (0, 0)) ∧ W.heap[w.heap.size + 1 + 1]? = some (.cells #[.bool false, .slice none 0 0, .int .i64 0, .bool false] 51 (0, 0)) ∧ (L 0 → (v 0) = .agg #[.bool b0, .slice A n0 c, .int .i64 x0]) ∧ (L 1 → PDy W w.heap.size (v 1) (y.natAbs : Int) (-1074)) ∧ (L 2 → (v 2) = .agg #[.bool c0, .slice B m0 d, .int .i64 y0]) ∧ (L 3 → PDy W w.heap.size (v 3) (x.natAbs : Int) (-1074)) ∧ (L 4 → (v 4) = .int .i64 (cmpZ (y.natAbs : Int) (x.natAbs : Int))) ∧ (L 5 → (v 5) = .bool true) ∧ (L 6 → (v 6) = .bool true) := ⟨_, rfl⟩
  refine wp_region_slotsV [31, 32, 33, 34, 35, 36, 30] (by kernel_rfl) (by kernel_rfl) (G := GM) ?h0M ?hstepM ?hendM
  case h0M =>
    intro v; rw [hGM]
    exact ⟨BEL.out.next (below_drew (Below.refl _ _)), blk_drew XY.out, blk_drew XX.out, blk_drew XR.out, fun h => h.elim, fun h => h.elim, fun h => h.elim, fun h => h.elim, fun h => h.elim, fun h => h.elim, fun h => h.elim⟩
  case hstepM =>
    intro k o ho v W L hGv hnk haft hcl K hK
    rw [hGM] at hGv
    obtain ⟨hB, hb0, hb1, hb2, f0, f1, f2, f3, f4, f5, f6⟩ := hGv
    rcases k with _ | _ | _ | _ | _ | _ | _ | k
    all_goals first
      | (cases ho; done)
      | (obtain rfl := (Option.some.inj ho).symm
         clear ho
         rw [if_pos (by rfl)]
         simp only [setAll, List.setIfInBounds_toArray, List.set_cons_zero, List.set_cons_succ, List.set_nil, List.getElem_toArray, List.getElem_cons_zero, List.getElem_cons_succ, Nat.reduceAdd] at haft hK ⊢)
    case zero =>
      have cc0 := (box_cell (v := .bool b0) hb0 0 rfl).1
      have cc1 := (box_cell (v := .slice A n0 c) hb0 1 rfl).1
      have cc2 := (box_cell (v := .int .i64 x0) hb0 2 rfl).1
      have hb := Below.refl W.heap.size W
      have key := hK.out (.agg #[.bool b0, .slice A n0 c, .int .i64 x0]) W (by rw [hGM]; exact ⟨hB.next hb, blk_below hb0 hb, blk_below hb1 hb, blk_below hb2 hb, fun _ => by rw [upd_eq], (kd f1 (by decide) hb), (kv f2 (by decide)), (kd f3 (by decide) hb), (kv f4 (by decide)), (kv f5 (by decide)), (kv f6 (by decide))⟩)
      clear hb0 hb1 hb2 f0 f1 f2 f3 f4 f5 f6 hb hK
      go_simp
      simpa [upd] using key
    case succ.zero =>
      have d0 := f0 (haft { on := 0, ground := .data } (by simp) rfl)
      have D0 := d0
      have HALL := Aside0.mk (And.intro hK (And.intro hB (And.intro hb0 ( And.intro hb1 ( And.intro hb2 ( And.intro f0 ( And.intro f1 ( And.intro f2 ( And.intro f3 ( And.intro f4 ( And.intro f5 ( And.intro f6 (True.intro)))))))))))))
      clear hK hb0 hb1 hb2 f0 f1 f2 f3 f4 f5 f6
      go_simp
      go_at_call 49
      refine (abs_ok (HY.out.below hB.1) OY.out (tab_below HT.out hB.1)).mono ?_
      rintro en w4 ⟨v1, rfl, hr, hb⟩
      obtain ⟨hK, hB, hb0, hb1, hb2, f0, f1, f2, f3, f4, f5, f6, _⟩ := HALL.out
      have key := hK.out (v1) w4 (by rw [hGM]; exact ⟨hB.next hb, blk_below hb0 hb, blk_below hb1 hb, blk_below hb2 hb, (kv f0 (by decide)), fun _ => by rw [upd_eq]; exact hr.lower (Nat.le_trans (Nat.le_add_right _ _) hB.2), (kv f2 (by decide)), (kd f3 (by decide) hb), (kv f4 (by decide)), (kv f5 (by decide)), (kv f6 (by decide))⟩)
      clear hb0 hb1 hb2 f0 f1 f2 f3 f4 f5 f6 hK HALL
      simpa [upd, D0] using key
    case succ.succ.zero =>
      have cc0 := (box_cell (v := .bool c0) hb1 0 rfl).1
      have cc1 := (box_cell (v := .slice B m0 d) hb1 1 rfl).1
      have cc2 := (box_cell (v := .int .i64 y0) hb1 2 rfl).1
      have hb := Below.refl W.heap.size W
      have key := hK.out (.agg #[.bool c0, .slice B m0 d, .int .i64 y0]) W (by rw [hGM]; exact ⟨hB.next hb, blk_below hb0 hb, blk_below hb1 hb, blk_below hb2 hb, (kv f0 (by decide)), (kd f1 (by decide) hb), fun _ => by rw [upd_eq], (kd f3 (by decide) hb), (kv f4 (by decide)), (kv f5 (by decide)), (kv f6 (by decide))⟩)
      clear hb0 hb1 hb2 f0 f1 f2 f3 f4 f5 f6 hb hK
      go_simp
      simpa [upd] using key
    case succ.succ.succ.zero =>
      have d2 := f2 (haft { on := 2, ground := .data } (by simp) rfl)
      have D2 := d2
      have HALL := Aside0.mk (And.intro hK (And.intro hB (And.intro hb0 ( And.intro hb1 ( And.intro hb2 ( And.intro f0 ( And.intro f1 ( And.intro f2 ( And.intro f3 ( And.intro f4 ( And.intro f5 ( And.intro f6 (True.intro)))))))))))))
      clear hK hb0 hb1 hb2 f0 f1 f2 f3 f4 f5 f6
      go_simp
      go_at_call 49
      refine (abs_ok (HX.out.below hB.1) OX.out (tab_below HT.out hB.1)).mono ?_
      rintro en w4 ⟨v1, rfl, hr, hb⟩
      obtain ⟨hK, hB, hb0, hb1, hb2, f0, f1, f2, f3, f4, f5, f6, _⟩ := HALL.out
      have key := hK.out (v1) w4 (by rw [hGM]; exact ⟨hB.next hb, blk_below hb0 hb, blk_below hb1 hb, blk_below hb2 hb, (kv f0 (by decide)), (kd f1 (by decide) hb), (kv f2 (by decide)), fun _ => by rw [upd_eq]; exact hr.lower (Nat.le_trans (Nat.le_add_right _ _) hB.2), (kv f4 (by decide)), (kv f5 (by decide)), (kv f6 (by decide))⟩)
      clear hb0 hb1 hb2 f0 f1 f2 f3 f4 f5 f6 hK HALL
      simpa [upd, D2] using key
    case succ.succ.succ.succ.zero =>
      have d1 := f1 (haft { on := 1, ground := .data } (by simp) rfl)
      have D1 := d1
      have d3 := f3 (haft { on := 3, ground := .data } (by simp) rfl)
      have D3 := d3
      have HALL := Aside0.mk (And.intro hK (And.intro hB (And.intro hb0 ( And.intro hb1 ( And.intro hb2 ( And.intro f0 ( And.intro f1 ( And.intro f2 ( And.intro f3 ( And.intro f4 ( And.intro f5 ( And.intro f6 (True.intro)))))))))))))
      clear hK hb0 hb1 hb2 f0 f1 f2 f3 f4 f5 f6
      go_simp
      go_at_call 48
      refine (cmp_ok d1.c d3.c OAY.out OAX.out (tab_below HT.out hB.1)).mono ?_
      rintro en w4 ⟨rfl, hb⟩
      obtain ⟨hK, hB, hb0, hb1, hb2, f0, f1, f2, f3, f4, f5, f6, _⟩ := HALL.out
      have key := hK.out (.int .i64 (cmpZ (y.natAbs : Int) (x.natAbs : Int))) w4 (by rw [hGM]; exact ⟨hB.next hb, blk_below hb0 hb, blk_below hb1 hb, blk_below hb2 hb, (kv f0 (by decide)), (kd f1 (by decide) hb), (kv f2 (by decide)), (kd f3 (by decide) hb), fun _ => by rw [upd_eq], (kv f5 (by decide)), (kv f6 (by decide))⟩)
      clear hb0 hb1 hb2 f0 f1 f2 f3 f4 f5 f6 hK HALL
      simpa [upd] using key
    case succ.succ.succ.succ.succ.zero =>
      have d4 := f4 (haft { on := 4, ground := .data } (by simp) rfl)
      have D4 := d4
      have hce := HCE.out
      have hb := Below.refl W.heap.size W
      have key := hK.out (.bool true) W (by rw [hGM]; exact ⟨hB.next hb, blk_below hb0 hb, blk_below hb1 hb, blk_below hb2 hb, (kv f0 (by decide)), (kd f1 (by decide) hb), (kv f2 (by decide)), (kd f3 (by decide) hb), (kv f4 (by decide)), fun _ => by rw [upd_eq], (kv f6 (by decide))⟩)
      clear hb0 hb1 hb2 f0 f1 f2 f3 f4 f5 f6 hb hK
      go_simp
      simpa [upd, D4] using key
    case succ.succ.succ.succ.succ.succ.zero =>
      have d5 := f5 (haft { on := 5, ground := .data } (by simp) rfl)
      have D5 := d5
      have hb := Below.refl W.heap.size W
      have key := hK.out (.bool true) W (by rw [hGM]; exact ⟨hB.next hb, blk_below hb0 hb, blk_below hb1 hb, blk_below hb2 hb, (kv f0 (by decide)), (kd f1 (by decide) hb), (kv f2 (by decide)), (kd f3 (by decide) hb), (kv f4 (by decide)), (kv f5 (by decide)), fun _ => by rw [upd_eq]⟩)
      clear hb0 hb1 hb2 f0 f1 f2 f3 f4 f5 f6 hb hK
      go_simp
      simpa [upd, D5] using key
  case hendM =>
    intro v W L0 hall hGv
    rw [hGM] at hGv
    obtain ⟨hB, hb0, hb1, hb2, f0, f1, f2, f3, f4, f5, f6⟩ := hGv
    have d6 := f6 (hall 6 (by decide))
    replace BEL := Aside0.mk hB
    replace XY := Aside0.mk hb0
    replace XX := Aside0.mk hb1
    replace XR := Aside0.mk hb2
    clear hall hB hb0 hb1 hb2 f0 f1 f2 f3 f4 f5 f6
    simp only [setAll, List.setIfInBounds_toArray, List.set_cons_zero, List.set_cons_succ, Nat.reduceAdd, d6]
    clear d6
    go_wp2_with (((with_reducible refine gate_store (p := 6) rfl ?_); go_must (refine store_box 51 6 (.tmp 37) rfl rfl rfl (g := w.heap.size + 1 + 1) (e := 51) (.agg #[.bool false, .slice none 0 0, .int .i64 0, .bool false]) ([.bool false, .slice none 0 0, .int .i64 0, .bool false]) rfl rfl rfl info_told ?b1 XR.out rfl ?_; (case b1 => intro q hq; simp at hq; rcases hq with rfl | rfl | rfl | rfl <;> rfl); intro wb hbx hgx; have HX := Aside0.mk hbx; have HG := Aside0.mk hgx; clear hbx hgx)); replace BEL := Aside0.mk (BEL.out.grown HG.out (by omega)); replace XY := Aside0.mk (blk_grown XY.out HG.out (by omega)); replace XX := Aside0.mk (blk_grown XX.out HG.out (by omega)); replace XR := HX; clear HG)
    refine bodyPost_ret (results_told rfl _ _ (w.heap.size + 1 + 1) _ rfl XR.out rfl) rfl ?_
    exact ⟨_, rfl, PO.none _ _, BEL.out.1⟩

set_option maxRecDepth 100000 in
set_option maxHeartbeats 8000000 in
theorem ang_g {f : Nat} {u v : Value} {y x : Int} {w : World} (h : CDy w u y (-1074)) (h' : CDy w v x (-1074)) (hy : y.natAbs < 2 ^ 2098) (hx : x.natAbs < 2 ^ 2098) (e1 : ¬ y = 0) (e3 : ¬ x = 0) (e2 : ¬ f = 33) (e4 : (y.natAbs : Int) = x.natAbs) (e5 : 0 < x) (hT : TabAt 0 Lib.deBruijn64tab w) :
    Calls Tryd.prog 23 #[.int .u8 f, u, v] w fun en w' => ∃ v', en = .returned v' ∧ PO w' w.heap.size v' (some (sgnI y, 0 + -2)) ∧ Below w.heap.size w w' := by
  obtain ⟨b0, A, n0, c, x0, rfl⟩ := h.ex
  obtain ⟨c0, B, m0, d, y0, rfl⟩ := h'.ex
  have HT := Aside0.mk hT
  have HY := Aside0.mk h
  have HX := Aside0.mk h'
  have OY := Aside0.mk (ok_z hy)
  have OX := Aside0.mk (ok_z hx)
  have OAY := Aside0.mk (ok_z (z := (y.natAbs : Int)) (by rw [Int.natAbs_natCast]; exact hy))
  have OAX := Aside0.mk (ok_z (z := (x.natAbs : Int)) (by rw [Int.natAbs_natCast]; exact hx))
  have hd : decide (y = 0) = false := decide_eq_false e1
  have hdx : decide (x = 0) = false := decide_eq_false e3
  have hff : ((f : Int) == 33) = false := by simp; omega
  have HCE : Aside0 ((cmpZ (y.natAbs : Int) (x.natAbs : Int) != 0) = false) := ⟨by rw [cmpZ_ne]; simp; exact e4⟩
  have hs : decide (0 < sgnI x) = true := by rw [sgn_pos]; exact decide_eq_true e5
  clear h h' hy hx hT e1 e2 e3 e4 e5
  go_enter Tryd.func23, Tryd.ntmps23
  have BEL : Aside0 (BelN w 3 (((w.alloc (.cells #[.bool b0, .slice A n0 c, .int .i64 x0] 27)).alloc (.cells #[.bool c0, .slice B m0 d, .int .i64 y0] 27)).alloc (.cells #[.bool false, .slice none 0 0, .int .i64 0, .bool false] 51))) := ⟨((((BelN.zero w).alloc _).alloc _).alloc _).less (by decide)⟩
  have XY : Aside0 ((((w.alloc (.cells #[.bool b0, .slice A n0 c, .int .i64 x0] 27)).alloc (.cells #[.bool c0, .slice B m0 d, .int .i64 y0] 27)).alloc (.cells #[.bool false, .slice none 0 0, .int .i64 0, .bool false] 51)).heap[w.heap.size]? = some (.cells #[.bool b0, .slice A n0 c, .int .i64 x0] 27 (0, 0))) := ⟨by have h := blk_new w (.cells #[.bool b0, .slice A n0 c, .int .i64 x0] 27); exact blk_alloc (blk_alloc (h) _) _⟩
  have XX : Aside0 ((((w.alloc (.cells #[.bool b0, .slice A n0 c, .int .i64 x0] 27)).alloc (.cells #[.bool c0, .slice B m0 d, .int .i64 y0] 27)).alloc (.cells #[.bool false, .slice none 0 0, .int .i64 0, .bool false] 51)).heap[w.heap.size + 1]? = some (.cells #[.bool c0, .slice B m0 d, .int .i64 y0] 27 (0, 0))) := ⟨by have h := blk_new (w.alloc (.cells #[.bool b0, .slice A n0 c, .int .i64 x0] 27)) (.cells #[.bool c0, .slice B m0 d, .int .i64 y0] 27); rw [size_alloc'] at h; exact blk_alloc (h) _⟩
  have XR : Aside0 ((((w.alloc (.cells #[.bool b0, .slice A n0 c, .int .i64 x0] 27)).alloc (.cells #[.bool c0, .slice B m0 d, .int .i64 y0] 27)).alloc (.cells #[.bool false, .slice none 0 0, .int .i64 0, .bool false] 51)).heap[w.heap.size + 1 + 1]? = some (.cells #[.bool false, .slice none 0 0, .int .i64 0, .bool false] 51 (0, 0))) := ⟨by have h := blk_new ((w.alloc (.cells #[.bool b0, .slice A n0 c, .int .i64 x0] 27)).alloc (.cells #[.bool c0, .slice B m0 d, .int .i64 y0] 27)) (.cells #[.bool false, .slice none 0 0, .int .i64 0, .bool false] 51); rw [size_alloc', size_alloc'] at h; exact h⟩
  obtain ⟨q0, q0'⟩ := box_cell XY.out 0 rfl
  obtain ⟨q1, q1'⟩ := box_cell XY.out 1 rfl
  obtain ⟨q2, q2'⟩ := box_cell XY.out 2 rfl
  go_wp2_with fail
  clear q0 q0' q1 q1' q2 q2'
  go_at_call 22
  refine (zero_ok (HY.out.below BEL.out.1) OY.out).mono ?_
  rintro en1 w1 ⟨rfl, hb⟩
  replace BEL := Aside0.mk (BEL.out.next hb)
  replace XY := Aside0.mk (blk_below XY.out hb)
  replace XX := Aside0.mk (blk_below XX.out hb)
  replace XR := Aside0.mk (blk_below XR.out hb)
  clear hb
  obtain ⟨q3, q3'⟩ := box_cell XY.out 0 rfl
  obtain ⟨q4, q4'⟩ := box_cell XY.out 1 rfl
  obtain ⟨q5, q5'⟩ := box_cell XY.out 2 rfl
  go_wp2_with fail
  clear q3 q3' q4 q4' q5 q5'
  go_at_call 45
  refine (sign_ok (HY.out.below BEL.out.1) OY.out).mono ?_
  rintro en2 w2 ⟨rfl, hb⟩
  replace BEL := Aside0.mk (BEL.out.next hb)
  replace XY := Aside0.mk (blk_below XY.out hb)
  replace XX := Aside0.mk (blk_below XX.out hb)
  replace XR := Aside0.mk (blk_below XR.out hb)
  clear hb
  obtain ⟨q6, q6'⟩ := box_cell XY.out 0 rfl
  obtain ⟨q7, q7'⟩ := box_cell XY.out 1 rfl
  obtain ⟨q8, q8'⟩ := box_cell XY.out 2 rfl
  go_wp2_with fail
  clear q6 q6' q7 q7' q8 q8'
  go_at_call 22
  refine (zero_ok (HY.out.below BEL.out.1) OY.out).mono ?_
  rintro en3 w3 ⟨rfl, hb⟩
  replace BEL := Aside0.mk (BEL.out.next hb)
  replace XY := Aside0.mk (blk_below XY.out hb)
  replace XX := Aside0.mk (blk_below XX.out hb)
  replace XR := Aside0.mk (blk_below XR.out hb)
  clear hb
  obtain ⟨q9, q9'⟩ := box_cell XX.out 0 rfl
  obtain ⟨q10, q10'⟩ := box_cell XX.out 1 rfl
  obtain ⟨q11, q11'⟩ := box_cell XX.out 2 rfl
  go_wp2_with fail
  clear q9 q9' q10 q10' q11 q11'
  go_at_call 22
  refine (zero_ok (HX.out.below BEL.out.1) OX.out).mono ?_
  rintro en4 w4 ⟨rfl, hb⟩
  replace BEL := Aside0.mk (BEL.out.next hb)
  replace XY := Aside0.mk (blk_below XY.out hb)
  replace XX := Aside0.mk (blk_below XX.out hb)
  replace XR := Aside0.mk (blk_below XR.out hb)
  clear hb
  go_upto_region 10 with fail
  obtain ⟨GM, hGM⟩ : ∃ G : (Nat → Prop) → (Nat → Value) → World → Prop, G = fun L v W => BelN w 3 W ∧ W.heap[w.heap.size]? = some (.cells #[.bool b0, .slice A n0 c, .int .i64 x0] 27 (0, 0)) ∧ W.heap[w.heap.size + 1]? = some (.cells #[.bool c0, .slice B m0 d, .int .i64 y0] 27 (0, 0)) ∧ W.heap[w.heap.size + 1 + 1]? = some (.cells #[.bool false, .slice none 0 0, .int .i64 0, .bool false] 51 (0, 0)) ∧ (L 0 → (v 0) = .agg #[.bool b0, .slice A n0 c, .int .i64 x0]) ∧ (L 1 → PDy W w.heap.size (v 1) (y.natAbs : Int) (-1074)) ∧ (L 2 → (v 2) = .agg #[.bool c0, .slice B m0 d, .int .i64 y0]) ∧ (L 3 → PDy W w.heap.size (v 3) (x.natAbs : Int) (-1074)) ∧ (L 4 → (v 4) = .int .i64 (cmpZ (y.natAbs : Int) (x.natAbs : Int))) ∧ (L 5 → (v 5) = .bool false) ∧ (L 6 → (v 6) = .bool false) := ⟨_, rfl⟩
  refine wp_region_slotsV [31, 32, 33, 34, 35, 36, 30] (by kernel_rfl) (by kernel_rfl) (G := GM) ?h0M ?hstepM ?hendM
  case h0M =>
    intro v; rw [hGM]
    exact ⟨BEL.out.next (below_drew (Below.refl _ _)), blk_drew XY.out, blk_drew XX.out, blk_drew XR.out, fun h => h.elim, fun h => h.elim, fun h => h.elim, fun h => h.elim, fun h => h.elim, fun h => h.elim, fun h => h.elim⟩
  case hstepM =>
    intro k o ho v W L hGv hnk haft hcl K hK
    rw [hGM] at hGv
    obtain ⟨hB, hb0, hb1, hb2, f0, f1, f2, f3, f4, f5, f6⟩ := hGv
    rcases k with _ | _ | _ | _ | _ | _ | _ | k
    all_goals first
      | (cases ho; done)
      | (obtain rfl := (Option.some.inj ho).symm
         clear ho
         rw [if_pos (by rfl)]
         simp only [setAll, List.setIfInBounds_toArray, List.set_cons_zero, List.set_cons_succ, List.set_nil, List.getElem_toArray, List.getElem_cons_zero, List.getElem_cons_succ, Nat.reduceAdd] at haft hK ⊢)
    case zero =>
      have cc0 := (box_cell (v := .bool b0) hb0 0 rfl).1
      have cc1 := (box_cell (v := .slice A n0 c) hb0 1 rfl).1
      have cc2 := (box_cell (v := .int .i64 x0) hb0 2 rfl).1
      have hb := Below.refl W.heap.size W
      have key := hK.out (.agg #[.bool b0, .slice A n0 c, .int .i64 x0]) W (by rw [hGM]; exact ⟨hB.next hb, blk_below hb0 hb, blk_below hb1 hb, blk_below hb2 hb, fun _ => by rw [upd_eq], (kd f1 (by decide) hb), (kv f2 (by decide)), (kd f3 (by decide) hb), (kv f4 (by decide)), (kv f5 (by decide)), (kv f6 (by decide))⟩)
      clear hb0 hb1 hb2 f0 f1 f2 f3 f4 f5 f6 hb hK
      go_simp
      simpa [upd] using key
    case succ.zero =>
      have d0 := f0 (haft { on := 0, ground := .data } (by simp) rfl)
      have D0 := d0
      have HALL := Aside0.mk (And.intro hK (And.intro hB (And.intro hb0 ( And.intro hb1 ( And.intro hb2 ( And.intro f0 ( And.intro f1 ( And.intro f2 ( And.intro f3 ( And.intro f4 ( And.intro f5 ( And.intro f6 (True.intro)))))))))))))
      clear hK hb0 hb1 hb2 f0 f1 f2 f3 f4 f5 f6
      go_simp
      go_at_call 49
      refine (abs_ok (HY.out.below hB.1) OY.out (tab_below HT.out hB.1)).mono ?_
      rintro en w4 ⟨v1, rfl, hr, hb⟩
      obtain ⟨hK, hB, hb0, hb1, hb2, f0, f1, f2, f3, f4, f5, f6, _⟩ := HALL.out
      have key := hK.out (v1) w4 (by rw [hGM]; exact ⟨hB.next hb, blk_below hb0 hb, blk_below hb1 hb, blk_below hb2 hb, (kv f0 (by decide)), fun _ => by rw [upd_eq]; exact hr.lower (Nat.le_trans (Nat.le_add_right _ _) hB.2), (kv f2 (by decide)), (kd f3 (by decide) hb), (kv f4 (by decide)), (kv f5 (by decide)), (kv f6 (by decide))⟩)
      clear hb0 hb1 hb2 f0 f1 f2 f3 f4 f5 f6 hK HALL
      simpa [upd, D0] using key
    case succ.succ.zero =>
      have cc0 := (box_cell (v := .bool c0) hb1 0 rfl).1
      have cc1 := (box_cell (v := .slice B m0 d) hb1 1 rfl).1
      have cc2 := (box_cell (v := .int .i64 y0) hb1 2 rfl).1
      have hb := Below.refl W.heap.size W
      have key := hK.out (.agg #[.bool c0, .slice B m0 d, .int .i64 y0]) W (by rw [hGM]; exact ⟨hB.next hb, blk_below hb0 hb, blk_below hb1 hb, blk_below hb2 hb, (kv f0 (by decide)), (kd f1 (by decide) hb), fun _ => by rw [upd_eq], (kd f3 (by decide) hb), (kv f4 (by decide)), (kv f5 (by decide)), (kv f6 (by decide))⟩)
      clear hb0 hb1 hb2 f0 f1 f2 f3 f4 f5 f6 hb hK
      go_simp
      simpa [upd] using key
    case succ.succ.succ.zero =>
      have d2 := f2 (haft { on := 2, ground := .data } (by simp) rfl)
      have D2 := d2
      have HALL := Aside0.mk (And.intro hK (And.intro hB (And.intro hb0 ( And.intro hb1 ( And.intro hb2 ( And.intro f0 ( And.intro f1 ( And.intro f2 ( And.intro f3 ( And.intro f4 ( And.intro f5 ( And.intro f6 (True.intro)))))))))))))
      clear hK hb0 hb1 hb2 f0 f1 f2 f3 f4 f5 f6
      go_simp
      go_at_call 49
      refine (abs_ok (HX.out.below hB.1) OX.out (tab_below HT.out hB.1)).mono ?_
      rintro en w4 ⟨v1, rfl, hr, hb⟩
      obtain ⟨hK, hB, hb0, hb1, hb2, f0, f1, f2, f3, f4, f5, f6, _⟩ := HALL.out
      have key := hK.out (v1) w4 (by rw [hGM]; exact ⟨hB.next hb, blk_below hb0 hb, blk_below hb1 hb, blk_below hb2 hb, (kv f0 (by decide)), (kd f1 (by decide) hb), (kv f2 (by decide)), fun _ => by rw [upd_eq]; exact hr.lower (Nat.le_trans (Nat.le_add_right _ _) hB.2), (kv f4 (by decide)), (kv f5 (by decide)), (kv f6 (by decide))⟩)
      clear hb0 hb1 hb2 f0 f1 f2 f3 f4 f5 f6 hK HALL
      simpa [upd, D2] using key
    case succ.succ.succ.succ.zero =>
      have d1 := f1 (haft { on := 1, ground := .data } (by simp) rfl)
      have D1 := d1
      have d3 := f3 (haft { on := 3, ground := .data } (by simp) rfl)
      have D3 := d3
      have HALL := Aside0.mk (And.intro hK (And.intro hB (And.intro hb0 ( And.intro hb1 ( And.intro hb2 ( And.intro f0 ( And.intro f1 ( And.intro f2 ( And.intro f3 ( And.intro f4 ( And.intro f5 ( And.intro f6 (True.intro)))))))))))))
      clear hK hb0 hb1 hb2 f0 f1 f2 f3 f4 f5 f6
      go_simp
      go_at_call 48
      refine (cmp_ok d1.c d3.c OAY.out OAX.out (tab_below HT.out hB.1)).mono ?_
      rintro en w4 ⟨rfl, hb⟩
      obtain ⟨hK, hB, hb0, hb1, hb2, f0, f1, f2, f3, f4, f5, f6, _⟩ := HALL.out
      have key := hK.out (.int .i64 (cmpZ (y.natAbs : Int) (x.natAbs : Int))) w4 (by rw [hGM]; exact ⟨hB.next hb, blk_below hb0 hb, blk_below hb1 hb, blk_below hb2 hb, (kv f0 (by decide)), (kd f1 (by decide) hb), (kv f2 (by decide)), (kd f3 (by decide) hb), fun _ => by rw [upd_eq], (kv f5 (by decide)), (kv f6 (by decide))⟩)
      clear hb0 hb1 hb2 f0 f1 f2 f3 f4 f5 f6 hK HALL
      simpa [upd] using key
    case succ.succ.succ.succ.succ.zero =>
      have d4 := f4 (haft { on := 4, ground := .data } (by simp) rfl)
      have D4 := d4
      have hce := HCE.out
      have hb := Below.refl W.heap.size W
      have key := hK.out (.bool false) W (by rw [hGM]; exact ⟨hB.next hb, blk_below hb0 hb, blk_below hb1 hb, blk_below hb2 hb, (kv f0 (by decide)), (kd f1 (by decide) hb), (kv f2 (by decide)), (kd f3 (by decide) hb), (kv f4 (by decide)), fun _ => by rw [upd_eq], (kv f6 (by decide))⟩)
      clear hb0 hb1 hb2 f0 f1 f2 f3 f4 f5 f6 hb hK
      go_simp
      simpa [upd, D4] using key
    case succ.succ.succ.succ.succ.succ.zero =>
      have d5 := f5 (haft { on := 5, ground := .data } (by simp) rfl)
      have D5 := d5
      have hb := Below.refl W.heap.size W
      have key := hK.out (.bool false) W (by rw [hGM]; exact ⟨hB.next hb, blk_below hb0 hb, blk_below hb1 hb, blk_below hb2 hb, (kv f0 (by decide)), (kd f1 (by decide) hb), (kv f2 (by decide)), (kd f3 (by decide) hb), (kv f4 (by decide)), (kv f5 (by decide)), fun _ => by rw [upd_eq]⟩)
      clear hb0 hb1 hb2 f0 f1 f2 f3 f4 f5 f6 hb hK
      go_simp
      simpa [upd, D5] using key
  case hendM =>
    intro v W L0 hall hGv
    rw [hGM] at hGv
    obtain ⟨hB, hb0, hb1, hb2, f0, f1, f2, f3, f4, f5, f6⟩ := hGv
    have d6 := f6 (hall 6 (by decide))
    replace BEL := Aside0.mk hB
    replace XY := Aside0.mk hb0
    replace XX := Aside0.mk hb1
    replace XR := Aside0.mk hb2
    clear hall hB hb0 hb1 hb2 f0 f1 f2 f3 f4 f5 f6
    simp only [setAll, List.setIfInBounds_toArray, List.set_cons_zero, List.set_cons_succ, Nat.reduceAdd, d6]
    clear d6
    obtain ⟨q12, q12'⟩ := box_cell XX.out 0 rfl
    obtain ⟨q13, q13'⟩ := box_cell XX.out 1 rfl
    obtain ⟨q14, q14'⟩ := box_cell XX.out 2 rfl
    go_wp2_with fail
    clear q12 q12' q13 q13' q14 q14'
    go_at_call 45
    refine (sign_ok (HX.out.below BEL.out.1) OX.out).mono ?_
    rintro en21 w21 ⟨rfl, hb⟩
    replace BEL := Aside0.mk (BEL.out.next hb)
    replace XY := Aside0.mk (blk_below XY.out hb)
    replace XX := Aside0.mk (blk_below XX.out hb)
    replace XR := Aside0.mk (blk_below XR.out hb)
    clear hb
    go_wp2_with fail
    have BLW := BEL
    go_at_call 47
    refine (part_any (sgnI y) 2 _ (sgnI_small y) (by decide) (by decide) (tab_below HT.out BEL.out.1)).mono ?_
    rintro en22 w22 ⟨v22, rfl, hr, hb⟩
    replace BEL := Aside0.mk (BEL.out.next hb)
    replace XY := Aside0.mk (blk_below XY.out hb)
    replace XX := Aside0.mk (blk_below XX.out hb)
    replace XR := Aside0.mk (blk_below XR.out hb)
    have P1 := Aside0.mk hr
    obtain ⟨b22, A22, n22, c22, x22, rfl⟩ := hr.ex5
    clear hr hb
    go_wp2_with (((with_reducible refine gate_store (p := 6) rfl ?_); go_must (refine store_box 51 6 (.tmp 43) rfl rfl rfl (g := w.heap.size + 1 + 1) (e := 51) (.agg #[.bool b22, .slice A22 n22 c22, .int .i64 x22, .bool true]) ([.bool b22, .slice A22 n22 c22, .int .i64 x22, .bool true]) rfl rfl rfl info_told ?b1 XR.out rfl ?_; (case b1 => intro q hq; simp at hq; rcases hq with rfl | rfl | rfl | rfl <;> rfl); intro wb hbx hgx; have HX := Aside0.mk hbx; have HG := Aside0.mk hgx; clear hbx hgx)); replace P1 := Aside0.mk (P1.out.grown_box XR.out (by decide) HG.out); replace BEL := Aside0.mk (BEL.out.grown HG.out (by omega)); replace XY := Aside0.mk (blk_grown XY.out HG.out (by omega)); replace XX := Aside0.mk (blk_grown XX.out HG.out (by omega)); replace XR := HX; clear HG)
    refine bodyPost_ret (results_told rfl _ _ (w.heap.size + 1 + 1) _ rfl XR.out rfl) rfl ?_
    exact ⟨_, rfl, P1.out.some.lower (Nat.le_trans (Nat.le_add_right _ _) BLW.out.2), BEL.out.1⟩

set_option maxRecDepth 100000 in
set_option maxHeartbeats 8000000 in
theorem ang_h {f : Nat} {u v : Value} {y x : Int} {w : World} (h : CDy w u y (-1074)) (h' : CDy w v x (-1074)) (hy : y.natAbs < 2 ^ 2098) (hx : x.natAbs < 2 ^ 2098) (e1 : ¬ y = 0) (e3 : ¬ x = 0) (e2 : ¬ f = 33) (e4 : (y.natAbs : Int) = x.natAbs) (e5 : ¬ 0 < x) (hT : TabAt 0 Lib.deBruijn64tab w) :
    Calls Tryd.prog 23 #[.int .u8 f, u, v] w fun en w' => ∃ v', en = .returned v' ∧ PO w' w.heap.size v' (some (3 * sgnI y, 0 + -2)) ∧ Below w.heap.size w w' := by
  obtain ⟨b0, A, n0, c, x0, rfl⟩ := h.ex
  obtain ⟨c0, B, m0, d, y0, rfl⟩ := h'.ex
  have HT := Aside0.mk hT
  have HY := Aside0.mk h
  have HX := Aside0.mk h'
  have OY := Aside0.mk (ok_z hy)
  have OX := Aside0.mk (ok_z hx)
  have OAY := Aside0.mk (ok_z (z := (y.natAbs : Int)) (by rw [Int.natAbs_natCast]; exact hy))
  have OAX := Aside0.mk (ok_z (z := (x.natAbs : Int)) (by rw [Int.natAbs_natCast]; exact hx))
  have hd : decide (y = 0) = false := decide_eq_false e1
  have hdx : decide (x = 0) = false := decide_eq_false e3
  have hff : ((f : Int) == 33) = false := by simp; omega
  have HCE : Aside0 ((cmpZ (y.natAbs : Int) (x.natAbs : Int) != 0) = false) := ⟨by rw [cmpZ_ne]; simp; exact e4⟩
  have hs : decide (0 < sgnI x) = false := by rw [sgn_pos]; exact decide_eq_false e5
  have h3 := sgnI_wrap3 y
  clear h h' hy hx hT e1 e2 e3 e4 e5
  go_enter Tryd.func23, Tryd.ntmps23
  have BEL : Aside0 (BelN w 3 (((w.alloc (.cells #[.bool b0, .slice A n0 c, .int .i64 x0] 27)).alloc (.cells #[.bool c0, .slice B m0 d, .int .i64 y0] 27)).alloc (.cells #[.bool false, .slice none 0 0, .int .i64 0, .bool false] 51))) := ⟨((((BelN.zero w).alloc _).alloc _).alloc _).less (by decide)⟩
  have XY : Aside0 ((((w.alloc (.cells #[.bool b0, .slice A n0 c, .int .i64 x0] 27)).alloc (.cells #[.bool c0, .slice B m0 d, .int .i64 y0] 27)).alloc (.cells #[.bool false, .slice none 0 0, .int .i64 0, .bool false] 51)).heap[w.heap.size]? = some (.cells #[.bool b0, .slice A n0 c, .int .i64 x0] 27 (0, 0))) := ⟨by have h := blk_new w (.cells #[.bool b0, .slice A n0 c, .int .i64 x0] 27); exact blk_alloc (blk_alloc (h) _) _⟩
  have XX : Aside0 ((((w.alloc (.cells #[.bool b0, .slice A n0 c, .int .i64 x0] 27)).alloc (.cells #[.bool c0, .slice B m0 d, .int .i64 y0] 27)).alloc (.cells #[.bool false, .slice none 0 0, .int .i64 0, .bool false] 51)).heap[w.heap.size + 1]? = some (.cells #[.bool c0, .slice B m0 d, .int .i64 y0] 27 (0, 0))) := ⟨by have h := blk_new (w.alloc (.cells #[.bool b0, .slice A n0 c, .int .i64 x0] 27)) (.cells #[.bool c0, .slice B m0 d, .int .i64 y0] 27); rw [size_alloc'] at h; exact blk_alloc (h) _⟩
  have XR : Aside0 ((((w.alloc (.cells #[.bool b0, .slice A n0 c, .int .i64 x0] 27)).alloc (.cells #[.bool c0, .slice B m0 d, .int .i64 y0] 27)).alloc (.cells #[.bool false, .slice none 0 0, .int .i64 0, .bool false] 51)).heap[w.heap.size + 1 + 1]? = some (.cells #[.bool false, .slice none 0 0, .int .i64 0, .bool false] 51 (0, 0))) := ⟨by have h := blk_new ((w.alloc (.cells #[.bool b0, .slice A n0 c, .int .i64 x0] 27)).alloc (.cells #[.bool c0, .slice B m0 d, .int .i64 y0] 27)) (.cells #[.bool false, .slice none 0 0, .int .i64 0, .bool false] 51); rw [size_alloc', size_alloc'] at h; exact h⟩
  obtain ⟨q0, q0'⟩ := box_cell XY.out 0 rfl
  obtain ⟨q1, q1'⟩ := box_cell XY.out 1 rfl
  obtain ⟨q2, q2'⟩ := box_cell XY.out 2 rfl
  go_wp2_with fail
  clear q0 q0' q1 q1' q2 q2'
  go_at_call 22
  refine (zero_ok (HY.out.below BEL.out.1) OY.out).mono ?_
  rintro en1 w1 ⟨rfl, hb⟩
  replace BEL := Aside0.mk (BEL.out.next hb)
  replace XY := Aside0.mk (blk_below XY.out hb)
  replace XX := Aside0.mk (blk_below XX.out hb)
  replace XR := Aside0.mk (blk_below XR.out hb)
  clear hb
  obtain ⟨q3, q3'⟩ := box_cell XY.out 0 rfl
  obtain ⟨q4, q4'⟩ := box_cell XY.out 1 rfl
  obtain ⟨q5, q5'⟩ := box_cell XY.out 2 rfl
  go_wp2_with fail
  clear q3 q3' q4 q4' q5 q5'
  go_at_call 45
  refine (sign_ok (HY.out.below BEL.out.1) OY.out).mono ?_
  rintro en2 w2 ⟨rfl, hb⟩
  replace BEL := Aside0.mk (BEL.out.next hb)
  replace XY := Aside0.mk (blk_below XY.out hb)
  replace XX := Aside0.mk (blk_below XX.out hb)
  replace XR := Aside0.mk (blk_below XR.out hb)
  clear hb
  obtain ⟨q6, q6'⟩ := box_cell XY.out 0 rfl
  obtain ⟨q7, q7'⟩ := box_cell XY.out 1 rfl
  obtain ⟨q8, q8'⟩ := box_cell XY.out 2 rfl
  go_wp2_with fail
  clear q6 q6' q7 q7' q8 q8'
  go_at_call 22
  refine (zero_ok (HY.out.below BEL.out.1) OY.out).mono ?_
  rintro en3 w3 ⟨rfl, hb⟩
  replace BEL := Aside0.mk (BEL.out.next hb)
  replace XY := Aside0.mk (blk_below XY.out hb)
  replace XX := Aside0.mk (blk_below XX.out hb)
  replace XR := Aside0.mk (blk_below XR.out hb)
  clear hb
  obtain ⟨q9, q9'⟩ := box_cell XX.out 0 rfl
  obtain ⟨q10, q10'⟩ := box_cell XX.out 1 rfl
  obtain ⟨q11, q11'⟩ := box_cell XX.out 2 rfl
  go_wp2_with fail
  clear q9 q9' q10 q10' q11 q11'
  go_at_call 22
  refine (zero_ok (HX.out.below BEL.out.1) OX.out).mono ?_
  rintro en4 w4 ⟨rfl, hb⟩
  replace BEL := Aside0.mk (BEL.out.next hb)
  replace XY := Aside0.mk (blk_below XY.out hb)
  replace XX := Aside0.mk (blk_below XX.out hb)
  replace XR := Aside0.mk (blk_below XR.out hb)
  clear hb
  go_upto_region 10 with fail
  obtain ⟨GM, hGM⟩ : ∃ G : (Nat → Prop) → (Nat → Value) → World → Prop, G = fun L v W => BelN w 3 W ∧ W.heap[w.heap.size]? = some (.cells #[.bool b0, .slice A n0 c, .int .i64 x0] 27 (0, 0)) ∧ W.heap[w.heap.size + 1]? = some (.cells #[.bool c0, .slice B m0 d, .int .i64 y0] 27 (0, 0)) ∧ W.heap[w.heap.size + 1 + 1]? = some (.cells #[.bool false, .slice none 0 0, .int .i64 0, .bool false] 51 (0, 0)) ∧ (L 0 → (v 0) = .agg #[.bool b0, .slice A n0 c, .int .i64 x0]) ∧ (L 1 → PDy W w.heap.size (v 1) (y.natAbs : Int) (-1074)) ∧ (L 2 → (v 2) = .agg #[.bool c0, .slice B m0 d, .int .i64 y0]) ∧ (L 3 → PDy W w.heap.size (v 3) (x.natAbs : Int) (-1074)) ∧ (L 4 → (v 4) = .int .i64 (cmpZ (y.natAbs : Int) (x.natAbs : Int))) ∧ (L 5 → (v 5) = .bool false) ∧ (L 6 → (v 6) = .bool false) := ⟨_, rfl⟩
  refine wp_region_slotsV [31, 32, 33, 34, 35, 36, 30] (by kernel_rfl) (by kernel_rfl) (G := GM) ?h0M ?hstepM ?hendM
  case h0M =>
    intro v; rw [hGM]
    exact ⟨BEL.out.next (below_drew (Below.refl _ _)), blk_drew XY.out, blk_drew XX.out, blk_drew XR.out, fun h => h.elim, fun h => h.elim, fun h => h.elim, fun h => h.elim, fun h => h.elim, fun h => h.elim, fun h => h.elim⟩
  case hstepM =>
    intro k o ho v W L hGv hnk haft hcl K hK
    rw [hGM] at hGv
    obtain ⟨hB, hb0, hb1, hb2, f0, f1, f2, f3, f4, f5, f6⟩ := hGv
    rcases k with _ | _ | _ | _ | _ | _ | _ | k
    all_goals first
      | (cases ho; done)
      | (obtain rfl := (Option.some.inj ho).symm
         clear ho
         rw [if_pos (by rfl)]
         simp only [setAll, List.setIfInBounds_toArray, List.set_cons_zero, List.set_cons_succ, List.set_nil, List.getElem_toArray, List.getElem_cons_zero, List.getElem_cons_succ, Nat.reduceAdd] at haft hK ⊢)
    case zero =>
      have cc0 := (box_cell (v := .bool b0) hb0 0 rfl).1
      have cc1 := (box_cell (v := .slice A n0 c) hb0 1 rfl).1
      have cc2 := (box_cell (v := .int .i64 x0) hb0 2 rfl).1
      have hb := Below.refl W.heap.size W
      have key := hK.out (.agg #[.bool b0, .slice A n0 c, .int .i64 x0]) W (by rw [hGM]; exact ⟨hB.next hb, blk_below hb0 hb, blk_below hb1 hb, blk_below hb2 hb, fun _ => by rw [upd_eq], (kd f1 (by decide) hb), (kv f2 (by decide)), (kd f3 (by decide) hb), (kv f4 (by decide)), (kv f5 (by decide)), (kv f6 (by decide))⟩)
      clear hb0 hb1 hb2 f0 f1 f2 f3 f4 f5 f6 hb hK
      go_simp
      simpa [upd] using key
    case succ.zero =>
      have d0 := f0 (haft { on := 0, ground := .data } (by simp) rfl)
      have D0 := d0
      have HALL := Aside0.mk (And.intro hK (And.intro hB (And.intro hb0 ( And.intro hb1 ( And.intro hb2 ( And.intro f0 ( And.intro f1 ( And.intro f2 ( And.intro f3 ( And.intro f4 ( And.intro f5 ( And.intro f6 (True.intro)))))))))))))
      clear hK hb0 hb1 hb2 f0 f1 f2 f3 f4 f5 f6
      go_simp
      go_at_call 49
      refine (abs_ok (HY.out.below hB.1) OY.out (tab_below HT.out hB.1)).mono ?_
      rintro en w4 ⟨v1, rfl, hr, hb⟩
      obtain ⟨hK, hB, hb0, hb1, hb2, f0, f1, f2, f3, f4, f5, f6, _⟩ := HALL.out
      have key := hK.out (v1) w4 (by rw [hGM]; exact ⟨hB.next hb, blk_below hb0 hb, blk_below hb1 hb, blk_below hb2 hb, (kv f0 (by decide)), fun _ => by rw [upd_eq]; exact hr.lower (Nat.le_trans (Nat.le_add_right _ _) hB.2), (kv f2 (by decide)), (kd f3 (by decide) hb), (kv f4 (by decide)), (kv f5 (by decide)), (kv f6 (by decide))⟩)
      clear hb0 hb1 hb2 f0 f1 f2 f3 f4 f5 f6 hK HALL
      simpa [upd, D0] using key
    case succ.succ.zero =>
      have cc0 := (box_cell (v := .bool c0) hb1 0 rfl).1
      have cc1 := (box_cell (v := .slice B m0 d) hb1 1 rfl).1
      have cc2 := (box_cell (v := .int .i64 y0) hb1 2 rfl).1
      have hb := Below.refl W.heap.size W
      have key := hK.out (.agg #[.bool c0, .slice B m0 d, .int .i64 y0]) W (by rw [hGM]; exact ⟨hB.next hb, blk_below hb0 hb, blk_below hb1 hb, blk_below hb2 hb, (kv f0 (by decide)), (kd f1 (by decide) hb), fun _ => by rw [upd_eq], (kd f3 (by decide) hb), (kv f4 (by decide)), (kv f5 (by decide)), (kv f6 (by decide))⟩)
      clear hb0 hb1 hb2 f0 f1 f2 f3 f4 f5 f6 hb hK
      go_simp
      simpa [upd] using key
    case succ.succ.succ.zero =>
      have d2 := f2 (haft { on := 2, ground := .data } (by simp) rfl)
      have D2 := d2
      have HALL := Aside0.mk (And.intro hK (And.intro hB (And.intro hb0 ( And.intro hb1 ( And.intro hb2 ( And.intro f0 ( And.intro f1 ( And.intro f2 ( And.intro f3 ( And.intro f4 ( And.intro f5 ( And.intro f6 (True.intro)))))))))))))
      clear hK hb0 hb1 hb2 f0 f1 f2 f3 f4 f5 f6
      go_simp
      go_at_call 49
      refine (abs_ok (HX.out.below hB.1) OX.out (tab_below HT.out hB.1)).mono ?_
      rintro en w4 ⟨v1, rfl, hr, hb⟩
      obtain ⟨hK, hB, hb0, hb1, hb2, f0, f1, f2, f3, f4, f5, f6, _⟩ := HALL.out
      have key := hK.out (v1) w4 (by rw [hGM]; exact ⟨hB.next hb, blk_below hb0 hb, blk_below hb1 hb, blk_below hb2 hb, (kv f0 (by decide)), (kd f1 (by decide) hb), (kv f2 (by decide)), fun _ => by rw [upd_eq]; exact hr.lower (Nat.le_trans (Nat.le_add_right _ _) hB.2), (kv f4 (by decide)), (kv f5 (by decide)), (kv f6 (by decide))⟩)
      clear hb0 hb1 hb2 f0 f1 f2 f3 f4 f5 f6 hK HALL
      simpa [upd, D2] using key
    case succ.succ.succ.succ.zero =>
      have d1 := f1 (haft { on := 1, ground := .data } (by simp) rfl)
      have D1 := d1
      have d3 := f3 (haft { on := 3, ground := .data } (by simp) rfl)
      have D3 := d3
      have HALL := Aside0.mk (And.intro hK (And.intro hB (And.intro hb0 ( And.intro hb1 ( And.intro hb2 ( And.intro f0 ( And.intro f1 ( And.intro f2 ( And.intro f3 ( And.intro f4 ( And.intro f5 ( And.intro f6 (True.intro)))))))))))))
      clear hK hb0 hb1 hb2 f0 f1 f2 f3 f4 f5 f6
      go_simp
      go_at_call 48
      refine (cmp_ok d1.c d3.c OAY.out OAX.out (tab_below HT.out hB.1)).mono ?_
      rintro en w4 ⟨rfl, hb⟩
      obtain ⟨hK, hB, hb0, hb1, hb2, f0, f1, f2, f3, f4, f5, f6, _⟩ := HALL.out
      have key := hK.out (.int .i64 (cmpZ (y.natAbs : Int) (x.natAbs : Int))) w4 (by rw [hGM]; exact ⟨hB.next hb, blk_below hb0 hb, blk_below hb1 hb, blk_below hb2 hb, (kv f0 (by decide)), (kd f1 (by decide) hb), (kv f2 (by decide)), (kd f3 (by decide) hb), fun _ => by rw [upd_eq], (kv f5 (by decide)), (kv f6 (by decide))⟩)
      clear hb0 hb1 hb2 f0 f1 f2 f3 f4 f5 f6 hK HALL
      simpa [upd] using key
    case succ.succ.succ.succ.succ.zero =>
      have d4 := f4 (haft { on := 4, ground := .data } (by simp) rfl)
      have D4 := d4
      have hce := HCE.out
      have hb := Below.refl W.heap.size W
      have key := hK.out (.bool false) W (by rw [hGM]; exact ⟨hB.next hb, blk_below hb0 hb, blk_below hb1 hb, blk_below hb2 hb, (kv f0 (by decide)), (kd f1 (by decide) hb), (kv f2 (by decide)), (kd f3 (by decide) hb), (kv f4 (by decide)), fun _ => by rw [upd_eq], (kv f6 (by decide))⟩)
      clear hb0 hb1 hb2 f0 f1 f2 f3 f4 f5 f6 hb hK
      go_simp
      simpa [upd, D4] using key
    case succ.succ.succ.succ.succ.succ.zero =>
      have d5 := f5 (haft { on := 5, ground := .data } (by simp) rfl)
      have D5 := d5
      have hb := Below.refl W.heap.size W
      have key := hK.out (.bool false) W (by rw [hGM]; exact ⟨hB.next hb, blk_below hb0 hb, blk_below hb1 hb, blk_below hb2 hb, (kv f0 (by decide)), (kd f1 (by decide) hb), (kv f2 (by decide)), (kd f3 (by decide) hb), (kv f4 (by decide)), (kv f5 (by decide)), fun _ => by rw [upd_eq]⟩)
      clear hb0 hb1 hb2 f0 f1 f2 f3 f4 f5 f6 hb hK
      go_simp
      simpa [upd, D5] using key
  case hendM =>
    intro v W L0 hall hGv
    rw [hGM] at hGv
    obtain ⟨hB, hb0, hb1, hb2, f0, f1, f2, f3, f4, f5, f6⟩ := hGv
    have d6 := f6 (hall 6 (by decide))
    replace BEL := Aside0.mk hB
    replace XY := Aside0.mk hb0
    replace XX := Aside0.mk hb1
    replace XR := Aside0.mk hb2
    clear hall hB hb0 hb1 hb2 f0 f1 f2 f3 f4 f5 f6
    simp only [setAll, List.setIfInBounds_toArray, List.set_cons_zero, List.set_cons_succ, Nat.reduceAdd, d6]
    clear d6
    obtain ⟨q12, q12'⟩ := box_cell XX.out 0 rfl
    obtain ⟨q13, q13'⟩ := box_cell XX.out 1 rfl
    obtain ⟨q14, q14'⟩ := box_cell XX.out 2 rfl
    go_wp2_with fail
    clear q12 q12' q13 q13' q14 q14'
    go_at_call 45
    refine (sign_ok (HX.out.below BEL.out.1) OX.out).mono ?_
    rintro en21 w21 ⟨rfl, hb⟩
    replace BEL := Aside0.mk (BEL.out.next hb)
    replace XY := Aside0.mk (blk_below XY.out hb)
    replace XX := Aside0.mk (blk_below XX.out hb)
    replace XR := Aside0.mk (blk_below XR.out hb)
    clear hb
    go_wp2_with fail
    have BLW := BEL
    go_at_call 47
    refine (part_any (3 * sgnI y) 2 _ (sgnI_small3 y) (by decide) (by decide) (tab_below HT.out BEL.out.1)).mono ?_
    rintro en22 w22 ⟨v22, rfl, hr, hb⟩
    replace BEL := Aside0.mk (BEL.out.next hb)
    replace XY := Aside0.mk (blk_below XY.out hb)
    replace XX := Aside0.mk (blk_below XX.out hb)
    replace XR := Aside0.mk (blk_below XR.out hb)
    have P1 := Aside0.mk hr
    obtain ⟨b22, A22, n22, c22, x22, rfl⟩ := hr.ex5
    clear hr hb
    go_wp2_with (((with_reducible refine gate_store (p := 6) rfl ?_); go_must (refine store_box 51 6 (.tmp 46) rfl rfl rfl (g := w.heap.size + 1 + 1) (e := 51) (.agg #[.bool b22, .slice A22 n22 c22, .int .i64 x22, .bool true]) ([.bool b22, .slice A22 n22 c22, .int .i64 x22, .bool true]) rfl rfl rfl info_told ?b1 XR.out rfl ?_; (case b1 => intro q hq; simp at hq; rcases hq with rfl | rfl | rfl | rfl <;> rfl); intro wb hbx hgx; have HX := Aside0.mk hbx; have HG := Aside0.mk hgx; clear hbx hgx)); replace P1 := Aside0.mk (P1.out.grown_box XR.out (by decide) HG.out); replace BEL := Aside0.mk (BEL.out.grown HG.out (by omega)); replace XY := Aside0.mk (blk_grown XY.out HG.out (by omega)); replace XX := Aside0.mk (blk_grown XX.out HG.out (by omega)); replace XR := HX; clear HG)
    refine bodyPost_ret (results_told rfl _ _ (w.heap.size + 1 + 1) _ rfl XR.out rfl) rfl ?_
    exact ⟨_, rfl, P1.out.some.lower (Nat.le_trans (Nat.le_add_right _ _) BLW.out.2), BEL.out.1⟩

theorem angle_any {f : Nat} {u v : Value} {y x : Int} {w : World} (h : CDy w u y (-1074)) (h' : CDy w v x (-1074)) (hy : y.natAbs < 2 ^ 2098) (hx : x.natAbs < 2 ^ 2098) (hT : TabAt 0 Lib.deBruijn64tab w) :
    Calls Tryd.prog 23 #[.int .u8 f, u, v] w fun en w' => ∃ v', en = .returned v' ∧ PO w' w.heap.size v' (angF f y x) ∧ Below w.heap.size w w' := by
  unfold angF
  by_cases e1 : y = 0
  · by_cases e2 : 0 < x
    · rw [if_pos ⟨e1, e2⟩]; exact ang_a h h' hy hx e1 e2 hT
    · rw [if_neg (fun h => e2 h.2)]
      by_cases e3 : f = 33
      · rw [if_pos e3]; exact ang_c h h' hy hx e1 e2 e3 hT
      · rw [if_neg e3, if_pos e1]; exact ang_d h h' hy hx e1 e2 e3 hT
  · rw [if_neg (fun h => e1 h.1)]
    by_cases e3 : f = 33
    · rw [if_pos e3]; exact ang_b h h' hy hx e1 e3 hT
    · rw [if_neg e3, if_neg e1]
      by_cases e4 : x = 0
      · rw [if_pos e4]; exact ang_e h h' hy hx e1 e4 e3 hT
      · rw [if_neg e4]
        by_cases e5 : (y.natAbs : Int) = x.natAbs
        · rw [if_neg (fun h => h e5)]
          by_cases e6 : 0 < x
          · rw [if_pos e6]; exact ang_g h h' hy hx e1 e4 e3 e5 e6 hT
          · rw [if_neg e6]; exact ang_h h h' hy hx e1 e4 e3 e5 e6 hT
        · rw [if_pos e5]; exact ang_f h h' hy hx e1 e4 e3 e5 hT

def is2F (f : Nat) : Bool := decide (f = 33) || decide (f = 34)
set_option maxRecDepth 100000 in
set_option maxHeartbeats 8000000 in
theorem is2_one (f : Nat) (hf : f < 256) (w : World) :
    Calls Tryd.prog 21 #[.int .u8 f] w fun en w' => en = .returned (.bool (is2F f)) ∧ Below w.heap.size w w' := by
  have hb0 := Aside0.mk (Below.refl w.heap.size w)
  unfold is2F
  by_cases h1 : f = 33
  · rw [decide_eq_true h1]
    have d1 : ((f : Int) == 33) = true := by simp; omega
    go_enter Tryd.func21, Tryd.ntmps21
    go_wp2
    go_ret
    exact ⟨rfl, hb0.out⟩
  · rw [decide_eq_false h1]
    have d1 : ((f : Int) == 33) = false := by simp; omega
    obtain ⟨q, hq⟩ : ∃ q, decide (f = 34) = q := ⟨_, rfl⟩
    have d2 : ((f : Int) == 34) = q := by
      rw [← hq]
      by_cases h2 : f = 34
      · subst h2; rfl
      · rw [decide_eq_false h2]; simp; omega
    rw [hq]
    clear h1 hq
    go_enter Tryd.func21, Tryd.ntmps21
    go_wp2
    go_ret
    exact ⟨rfl, hb0.out⟩

def bad2 (y x : Nat) : Bool := !finB y || !finB x || (decide (fromV y = 0) && decide (fromV x = 0))
def exE2 (f y x : Nat) : Int := if is2F f = true then (if bad2 y x = true then 5 else 0) else 2
def exO2 (f y x : Nat) : Option (Int × Int) := if is2F f = true ∧ bad2 y x = false then angF f (fromV y) (fromV x) else none
set_option maxRecDepth 100000 in
set_option maxHeartbeats 8000000 in
theorem exact2_any (f y x : Nat) (hf : f < 256) (hy : y < 18446744073709551616) (hx : x < 18446744073709551616) (w : World) (hT : TabAt 0 Lib.deBruijn64tab w) :
    Calls Tryd.prog 7 #[.int .u8 f, .int .u64 (y : Int), .int .u64 (x : Int)] w fun en w' => ∃ v', en = .returned (.tuple #[v', .bool (exO2 f y x).isSome, .int .i64 (exE2 f y x)]) ∧ PDy w' w.heap.size v' ((exO2 f y x).getD (0, 0)).1 ((exO2 f y x).getD (0, 0)).2 ∧ Below w.heap.size w w' := by
  have HT := Aside0.mk hT
  have HF := Aside0.mk hf
  have QFy := Aside0.mk (fun (W : World) (ht : TabAt 0 Lib.deBruijn64tab W) => from_one y hy W ht)
  have QFx := Aside0.mk (fun (W : World) (ht : TabAt 0 Lib.deBruijn64tab W) => from_one x hx W ht)
  have QIs := Aside0.mk (fun (W : World) => is2_one f hf W)
  have HE := Aside0.mk (show exE2 f y x = if is2F f = true then (if (!finB y || !finB x || (decide (fromV y = 0) && decide (fromV x = 0))) = true then 5 else 0) else 2 from rfl)
  have HO := Aside0.mk (show exO2 f y x = if is2F f = true ∧ (!finB y || !finB x || (decide (fromV y = 0) && decide (fromV x = 0))) = false then angF f (fromV y) (fromV x) else none from rfl)
  have HZY := Aside0.mk (fromV_small y)
  have HZX := Aside0.mk (fromV_small x)
  obtain ⟨eo, heo⟩ : ∃ o, o = exO2 f y x := ⟨_, rfl⟩
  obtain ⟨ee, hee⟩ : ∃ o, o = exE2 f y x := ⟨_, rfl⟩
  rw [← heo] at HO ⊢
  rw [← hee] at HE ⊢
  clear hT hf hx hy heo hee
  generalize fromV y = p at *
  generalize fromV x = q at *
  generalize is2F f = isf at *
  generalize finB x = finx at *
  generalize finB y = finy at *
  go_enter Tryd.func7, Tryd.ntmps7
  have BEL : Aside0 (BelN w 1 (w.alloc (.cells #[.bool false, .slice none 0 0, .int .i64 0] 27))) := ⟨((BelN.zero w).alloc _).less (by decide)⟩
  have XR : Aside0 ((w.alloc (.cells #[.bool false, .slice none 0 0, .int .i64 0] 27)).heap[w.heap.size]? = some (.cells #[.bool false, .slice none 0 0, .int .i64 0] 27 (0, 0))) := ⟨by have h := blk_new w (.cells #[.bool false, .slice none 0 0, .int .i64 0] 27); exact h⟩
  go_wp2_with fail
  have BLY := BEL
  go_at_call 20
  refine (QFy.out _ (tab_below HT.out BEL.out.1)).mono ?_
  rintro en1 w1 ⟨v1, rfl, hr, hb⟩
  replace BEL := Aside0.mk (BEL.out.next hb)
  replace XR := Aside0.mk (blk_below XR.out hb)
  have PY := Aside0.mk hr
  obtain ⟨b1, A1, n1, c1, x1, rfl⟩ := hr.ex
  clear hr hb
  have BELo := BEL
  go_wp2_with (replace BEL := Aside0.mk ((BEL.out.alloc (.cells #[.bool false, .slice none 0 0, .int .i64 0] 27)).less (j := 1) (by omega)); have HN := Aside0.mk (blk_new w1 (.cells #[.bool false, .slice none 0 0, .int .i64 0] 27)); have L_XR := lt_blk XR.out; replace XR := Aside0.mk (blk_alloc XR.out (.cells #[.bool false, .slice none 0 0, .int .i64 0] 27)); replace PY := Aside0.mk (PY.out.below (below_alloc (Below.refl _ _) (.cells #[.bool false, .slice none 0 0, .int .i64 0] 27))); ((with_reducible refine gate_store (p := 9) rfl ?_); go_must (refine store_box 27 9 (.tmp 17) rfl rfl rfl (g := w1.heap.size) (e := 27) (.agg #[.bool b1, .slice A1 n1 c1, .int .i64 x1]) ([.bool b1, .slice A1 n1 c1, .int .i64 x1]) rfl rfl rfl info_dyad ?b1 HN.out rfl ?_; (case b1 => intro q hq; simp at hq; rcases hq with rfl | rfl | rfl <;> rfl); intro wb hbx hgx; have HX := Aside0.mk hbx; have HG := Aside0.mk hgx; clear hbx hgx)); replace PY := Aside0.mk (PY.out.grown_box HN.out (by decide) HG.out); have LB_XY := BELo.out.2; replace BEL := Aside0.mk (BEL.out.grown HG.out (Nat.le_trans (Nat.le_add_right _ _) LB_XY)); replace XR := Aside0.mk (blk_grown XR.out HG.out (Nat.ne_of_lt L_XR)); have NE_XR_XY := Aside0.mk (Nat.ne_of_lt L_XR); clear L_XR; have LL_XY := Aside0.mk LB_XY; clear LB_XY; have XY := HX; clear HG HN HX)
  have BLX := BEL
  go_at_call 20
  refine (QFx.out _ (tab_below HT.out BEL.out.1)).mono ?_
  rintro en2 w2 ⟨v2, rfl, hr, hb⟩
  replace BEL := Aside0.mk (BEL.out.next hb)
  replace XR := Aside0.mk (blk_below XR.out hb)
  replace XY := Aside0.mk (blk_below XY.out hb)
  replace PY := Aside0.mk (PY.out.below hb)
  have PX := Aside0.mk hr
  obtain ⟨b2, A2, n2, c2, x2, rfl⟩ := hr.ex
  clear hr hb
  have BELo := BEL
  go_wp2_with (replace BEL := Aside0.mk ((BEL.out.alloc (.cells #[.bool false, .slice none 0 0, .int .i64 0] 27)).less (j := 1) (by omega)); have HN := Aside0.mk (blk_new w2 (.cells #[.bool false, .slice none 0 0, .int .i64 0] 27)); have L_XR := lt_blk XR.out; replace XR := Aside0.mk (blk_alloc XR.out (.cells #[.bool false, .slice none 0 0, .int .i64 0] 27)); have L_XY := lt_blk XY.out; replace XY := Aside0.mk (blk_alloc XY.out (.cells #[.bool false, .slice none 0 0, .int .i64 0] 27)); replace PY := Aside0.mk (PY.out.below (below_alloc (Below.refl _ _) (.cells #[.bool false, .slice none 0 0, .int .i64 0] 27))); replace PX := Aside0.mk (PX.out.below (below_alloc (Below.refl _ _) (.cells #[.bool false, .slice none 0 0, .int .i64 0] 27))); ((with_reducible refine gate_store (p := 11) rfl ?_); go_must (refine store_box 27 11 (.tmp 22) rfl rfl rfl (g := w2.heap.size) (e := 27) (.agg #[.bool b2, .slice A2 n2 c2, .int .i64 x2]) ([.bool b2, .slice A2 n2 c2, .int .i64 x2]) rfl rfl rfl info_dyad ?b1 HN.out rfl ?_; (case b1 => intro q hq; simp at hq; rcases hq with rfl | rfl | rfl <;> rfl); intro wb hbx hgx; have HX := Aside0.mk hbx; have HG := Aside0.mk hgx; clear hbx hgx)); replace PY := Aside0.mk (PY.out.grown_box HN.out (by decide) HG.out); replace PX := Aside0.mk (PX.out.grown_box HN.out (by decide) HG.out); have LB_XX := BELo.out.2; replace BEL := Aside0.mk (BEL.out.grown HG.out (Nat.le_trans (Nat.le_add_right _ _) LB_XX)); replace XR := Aside0.mk (blk_grown XR.out HG.out (Nat.ne_of_lt L_XR)); replace XY := Aside0.mk (blk_grown XY.out HG.out (Nat.ne_of_lt L_XY)); have NE_XR_XX := Aside0.mk (Nat.ne_of_lt L_XR); have NE_XY_XX := Aside0.mk (Nat.ne_of_lt L_XY); clear L_XR; clear L_XY; have LL_XX := Aside0.mk LB_XX; clear LB_XX; have XX := HX; clear HG HN HX)
  go_at_call 21
  refine (QIs.out _).mono ?_
  rintro en3 w3 ⟨rfl, hb⟩
  replace BEL := Aside0.mk (BEL.out.next hb)
  replace XR := Aside0.mk (blk_below XR.out hb)
  replace XY := Aside0.mk (blk_below XY.out hb)
  replace XX := Aside0.mk (blk_below XX.out hb)
  replace PY := Aside0.mk (PY.out.below hb)
  replace PX := Aside0.mk (PX.out.below hb)
  clear hb
  cases isf
  case false =>
    have HEE : Aside0 (ee = 2) := ⟨by rw [HE.out]; rfl⟩
    have HOO : Aside0 (eo = none) := ⟨by rw [HO.out, if_neg (fun h => by cases h.1)]⟩
    go_wp2_with (((with_reducible refine gate_store (p := 6) rfl ?_); go_must (refine store_box 27 6 (.tmp 28) rfl rfl rfl (g := w.heap.size) (e := 27) (.agg #[.bool false, .slice none 0 0, .int .i64 0]) ([.bool false, .slice none 0 0, .int .i64 0]) rfl rfl rfl info_dyad ?b1 XR.out rfl ?_; (case b1 => intro q hq; simp at hq; rcases hq with rfl | rfl | rfl <;> rfl); intro wb hbx hgx; have HX := Aside0.mk hbx; have HG := Aside0.mk hgx; clear hbx hgx)); replace PY := Aside0.mk (PY.out.grown_box XR.out (by decide) HG.out); replace PX := Aside0.mk (PX.out.grown_box XR.out (by decide) HG.out); replace BEL := Aside0.mk (BEL.out.grown HG.out (by omega)); replace XY := Aside0.mk (blk_grown XY.out HG.out (Ne.symm NE_XR_XY.out)); replace XX := Aside0.mk (blk_grown XX.out HG.out (Ne.symm NE_XR_XX.out)); replace XR := HX; clear HG)
    refine bodyPost_ret (results_list (rs := [.cell 6 27, .tmp 7, .tmp 8]) rfl (by simp) (Vals.box any_dyad info_dyad (g := w.heap.size) rfl XR.out rfl (.tmp (.tmp .nil)))) rfl ?_
    rw [HEE.out, HOO.out]
    exact ⟨_, rfl, PDy.zero _ _ _, BEL.out.1⟩
  case true =>
    have he0 : errB true = 0 := rfl
    have he5 : errB false = 5 := rfl
    cases finy
    case false =>
      have HEE : Aside0 (ee = 5) := ⟨by rw [HE.out]; rfl⟩
      have HOO : Aside0 (eo = none) := ⟨by rw [HO.out, if_neg (fun h => by have := h.2; cases this)]⟩
      go_wp2_with (((with_reducible refine gate_store (p := 6) rfl ?_); go_must (refine store_box 27 6 (.tmp 44) rfl rfl rfl (g := w.heap.size) (e := 27) (.agg #[.bool false, .slice none 0 0, .int .i64 0]) ([.bool false, .slice none 0 0, .int .i64 0]) rfl rfl rfl info_dyad ?b1 XR.out rfl ?_; (case b1 => intro q hq; simp at hq; rcases hq with rfl | rfl | rfl <;> rfl); intro wb hbx hgx; have HX := Aside0.mk hbx; have HG := Aside0.mk hgx; clear hbx hgx)); replace PY := Aside0.mk (PY.out.grown_box XR.out (by decide) HG.out); replace PX := Aside0.mk (PX.out.grown_box XR.out (by decide) HG.out); replace BEL := Aside0.mk (BEL.out.grown HG.out (by omega)); replace XY := Aside0.mk (blk_grown XY.out HG.out (Ne.symm NE_XR_XY.out)); replace XX := Aside0.mk (blk_grown XX.out HG.out (Ne.symm NE_XR_XX.out)); replace XR := HX; clear HG)
      refine bodyPost_ret (results_list (rs := [.cell 6 27, .tmp 7, .tmp 8]) rfl (by simp) (Vals.box any_dyad info_dyad (g := w.heap.size) rfl XR.out rfl (.tmp (.tmp .nil)))) rfl ?_
      rw [HEE.out, HOO.out]
      exact ⟨_, rfl, PDy.zero _ _ _, BEL.out.1⟩
    case true =>
      cases finx
      case false =>
        have HEE : Aside0 (ee = 5) := ⟨by rw [HE.out]; rfl⟩
        have HOO : Aside0 (eo = none) := ⟨by rw [HO.out, if_neg (fun h => by have := h.2; cases this)]⟩
        go_wp2_with (((with_reducible refine gate_store (p := 6) rfl ?_); go_must (refine store_box 27 6 (.tmp 44) rfl rfl rfl (g := w.heap.size) (e := 27) (.agg #[.bool false, .slice none 0 0, .int .i64 0]) ([.bool false, .slice none 0 0, .int .i64 0]) rfl rfl rfl info_dyad ?b1 XR.out rfl ?_; (case b1 => intro q hq; simp at hq; rcases hq with rfl | rfl | rfl <;> rfl); intro wb hbx hgx; have HX := Aside0.mk hbx; have HG := Aside0.mk hgx; clear hbx hgx)); replace PY := Aside0.mk (PY.out.grown_box XR.out (by decide) HG.out); replace PX := Aside0.mk (PX.out.grown_box XR.out (by decide) HG.out); replace BEL := Aside0.mk (BEL.out.grown HG.out (by omega)); replace XY := Aside0.mk (blk_grown XY.out HG.out (Ne.symm NE_XR_XY.out)); replace XX := Aside0.mk (blk_grown XX.out HG.out (Ne.symm NE_XR_XX.out)); replace XR := HX; clear HG)
        refine bodyPost_ret (results_list (rs := [.cell 6 27, .tmp 7, .tmp 8]) rfl (by simp) (Vals.box any_dyad info_dyad (g := w.heap.size) rfl XR.out rfl (.tmp (.tmp .nil)))) rfl ?_
        rw [HEE.out, HOO.out]
        exact ⟨_, rfl, PDy.zero _ _ _, BEL.out.1⟩
      case true =>
        obtain ⟨q0, q0'⟩ := box_cell XY.out 0 rfl
        obtain ⟨q1, q1'⟩ := box_cell XY.out 1 rfl
        obtain ⟨q2, q2'⟩ := box_cell XY.out 2 rfl
        go_wp2_with fail
        clear q0 q0' q1 q1' q2 q2'
        go_at_call 22
        refine (zero_ok PY.out.c (ok_z HZY.out)).mono ?_
        rintro en4 w4 ⟨rfl, hb⟩
        replace BEL := Aside0.mk (BEL.out.next hb)
        replace XR := Aside0.mk (blk_below XR.out hb)
        replace XY := Aside0.mk (blk_below XY.out hb)
        replace XX := Aside0.mk (blk_below XX.out hb)
        replace PY := Aside0.mk (PY.out.below hb)
        replace PX := Aside0.mk (PX.out.below hb)
        clear hb
        by_cases hp0 : p = 0
        case neg =>
          have hd : decide (p = 0) = false := decide_eq_false hp0
          have HEE : Aside0 (ee = 0) := ⟨by rw [HE.out]; rw [hd]; rfl⟩
          have HOO : Aside0 (eo = angF f p q) := ⟨by rw [HO.out, if_pos (by rw [hd]; simp)]⟩
          clear hp0
          obtain ⟨q3, q3'⟩ := box_cell XY.out 0 rfl
          obtain ⟨q4, q4'⟩ := box_cell XY.out 1 rfl
          obtain ⟨q5, q5'⟩ := box_cell XY.out 2 rfl
          obtain ⟨q6, q6'⟩ := box_cell XX.out 0 rfl
          obtain ⟨q7, q7'⟩ := box_cell XX.out 1 rfl
          obtain ⟨q8, q8'⟩ := box_cell XX.out 2 rfl
          go_wp2_with fail
          have BLA := BEL
          clear q3 q3' q4 q4' q5 q5' q6 q6' q7 q7' q8 q8'
          go_at_call 23
          refine (angle_any PY.out.c PX.out.c HZY.out HZX.out (tab_below HT.out BEL.out.1)).mono ?_
          rintro en5 w5 ⟨v5, rfl, hr, hb⟩
          replace BEL := Aside0.mk (BEL.out.next hb)
          replace XR := Aside0.mk (blk_below XR.out hb)
          replace XY := Aside0.mk (blk_below XY.out hb)
          replace XX := Aside0.mk (blk_below XX.out hb)
          replace PY := Aside0.mk (PY.out.below hb)
          replace PX := Aside0.mk (PX.out.below hb)
          have PA := Aside0.mk hr
          obtain ⟨b5, A5, n5, c5, x5, s5, rfl, hs⟩ := hr.ex6
          have HS5 := Aside0.mk hs
          clear hs
          clear hr hb
          have BELo := BEL
          go_wp2_with (replace BEL := Aside0.mk ((BEL.out.alloc (.cells #[.bool false, .slice none 0 0, .int .i64 0, .bool false] 51)).less (j := 1) (by omega)); have HN := Aside0.mk (blk_new w5 (.cells #[.bool false, .slice none 0 0, .int .i64 0, .bool false] 51)); have L_XR := lt_blk XR.out; replace XR := Aside0.mk (blk_alloc XR.out (.cells #[.bool false, .slice none 0 0, .int .i64 0, .bool false] 51)); have L_XY := lt_blk XY.out; replace XY := Aside0.mk (blk_alloc XY.out (.cells #[.bool false, .slice none 0 0, .int .i64 0, .bool false] 51)); have L_XX := lt_blk XX.out; replace XX := Aside0.mk (blk_alloc XX.out (.cells #[.bool false, .slice none 0 0, .int .i64 0, .bool false] 51)); replace PY := Aside0.mk (PY.out.below (below_alloc (Below.refl _ _) (.cells #[.bool false, .slice none 0 0, .int .i64 0, .bool false] 51))); replace PX := Aside0.mk (PX.out.below (below_alloc (Below.refl _ _) (.cells #[.bool false, .slice none 0 0, .int .i64 0, .bool false] 51))); replace PA := Aside0.mk (PA.out.below (below_alloc (Below.refl _ _) (.cells #[.bool false, .slice none 0 0, .int .i64 0, .bool false] 51))); ((with_reducible refine gate_store (p := 13) rfl ?_); go_must (refine store_box 51 13 (.tmp 48) rfl rfl rfl (g := w5.heap.size) (e := 51) (.agg #[.bool b5, .slice A5 n5 c5, .int .i64 x5, .bool s5]) ([.bool b5, .slice A5 n5 c5, .int .i64 x5, .bool s5]) rfl rfl rfl info_told ?b1 HN.out rfl ?_; (case b1 => intro q hq; simp at hq; rcases hq with rfl | rfl | rfl | rfl <;> rfl); intro wb hbx hgx; have HX := Aside0.mk hbx; have HG := Aside0.mk hgx; clear hbx hgx)); replace PY := Aside0.mk (PY.out.grown_box HN.out (by decide) HG.out); replace PX := Aside0.mk (PX.out.grown_box HN.out (by decide) HG.out); replace PA := Aside0.mk (PA.out.grown_box HN.out (by decide) HG.out); have LB_XA := BELo.out.2; replace BEL := Aside0.mk (BEL.out.grown HG.out (Nat.le_trans (Nat.le_add_right _ _) LB_XA)); replace XR := Aside0.mk (blk_grown XR.out HG.out (Nat.ne_of_lt L_XR)); replace XY := Aside0.mk (blk_grown XY.out HG.out (Nat.ne_of_lt L_XY)); replace XX := Aside0.mk (blk_grown XX.out HG.out (Nat.ne_of_lt L_XX)); have NE_XR_XA := Aside0.mk (Nat.ne_of_lt L_XR); have NE_XY_XA := Aside0.mk (Nat.ne_of_lt L_XY); have NE_XX_XA := Aside0.mk (Nat.ne_of_lt L_XX); clear L_XR; clear L_XY; clear L_XX; have LL_XA := Aside0.mk LB_XA; clear LB_XA; have XA := HX; clear HG HN HX)
          go_upto_region 8 with fail
          obtain ⟨GM, hGM⟩ : ∃ G : (Nat → Prop) → (Nat → Value) → World → Prop, G = fun L v W => BelN w 1 W ∧ W.heap[w5.heap.size]? = some (.cells #[.bool b5, .slice A5 n5 c5, .int .i64 x5, .bool s5] 51 (0, 0)) ∧ PO W w.heap.size (.agg #[.bool b5, .slice A5 n5 c5, .int .i64 x5, .bool s5]) (angF f p q) ∧ (L 0 → (v 0) = .pointer (some ⟨w5.heap.size, 0, none⟩)) ∧ (L 1 → (v 1) = .agg #[.bool b5, .slice A5 n5 c5, .int .i64 x5]) ∧ (L 2 → (v 2) = .pointer (some ⟨w5.heap.size, 3, none⟩)) ∧ (L 3 → (v 3) = .bool s5) ∧ ((¬ L 4 → W.heap[w.heap.size]? = some (.cells #[.bool false, .slice none 0 0, .int .i64 0] 27 (0, 0))) ∧ (L 4 → W.heap[w.heap.size]? = some (.cells #[.bool b5, .slice A5 n5 c5, .int .i64 x5] 27 (0, 0)))) ∧ (L 5 → (v 5) = .bool s5) ∧ (L 6 → (v 6) = .int .i64 0) := ⟨_, rfl⟩
          refine wp_region_slotsV [49, 50, 51, 52, 99, 7, 8] (by kernel_rfl) (by kernel_rfl) (G := GM) ?h0M ?hstepM ?hendM
          case h0M =>
            intro v; rw [hGM]
            exact ⟨BEL.out.next (below_drew (Below.refl _ _)), blk_drew XA.out, (PA.out.below (below_drew (Below.refl _ _))).lower BLA.out.1.size, fun h => h.elim, fun h => h.elim, fun h => h.elim, fun h => h.elim, ⟨fun _ => blk_drew XR.out, fun h => h.elim⟩, fun h => h.elim, fun h => h.elim⟩
          case hstepM =>
            intro k o ho v W L hGv hnk haft hcl K hK
            rw [hGM] at hGv
            obtain ⟨hB, hb0, hk0, f0, f1, f2, f3, f4, f5, f6⟩ := hGv
            rcases k with _ | _ | _ | _ | _ | _ | _ | k
            all_goals first
              | (cases ho; done)
              | (obtain rfl := (Option.some.inj ho).symm
                 clear ho
                 rw [if_pos (by rfl)]
                 simp only [setAll, List.setIfInBounds_toArray, List.set_cons_zero, List.set_cons_succ, List.set_nil, List.getElem_toArray, List.getElem_cons_zero, List.getElem_cons_succ, Nat.reduceAdd] at haft hK ⊢)
            case zero =>
              have hb := Below.refl W.heap.size W
              have key := hK.out (.pointer (some ⟨w5.heap.size, 0, none⟩)) W (by rw [hGM]; exact ⟨hB.next hb, blk_below hb0 hb, hk0.below hb, fun _ => by rw [upd_eq], (kv f1 (by decide)), (kv f2 (by decide)), (kv f3 (by decide)), (⟨fun h2 => blk_below (f4.1 (fun h3 => h2 (.inl h3))) hb, fun h2 => blk_below (f4.2 (h2.resolve_right (by decide))) hb⟩), (kv f5 (by decide)), (kv f6 (by decide))⟩)
              clear hb0 hk0 f0 f1 f2 f3 f4 f5 f6 hb hK
              go_simp
              simpa [upd] using key
            case succ.zero =>
              have hns4 : ¬ L 4 := fun hs => hnk (hcl 4 _ rfl hs { on := 1, ground := .data } (by simp) rfl)
              have d0 := f0 (haft { on := 0, ground := .data } (by simp) rfl)
              have D0 := d0
              have cc0 := (box_cell (v := .bool b5) hb0 0 rfl).1
              have cc1 := (box_cell (v := .slice A5 n5 c5) hb0 1 rfl).1
              have cc2 := (box_cell (v := .int .i64 x5) hb0 2 rfl).1
              have hb := Below.refl W.heap.size W
              have key := hK.out (.agg #[.bool b5, .slice A5 n5 c5, .int .i64 x5]) W (by rw [hGM]; exact ⟨hB.next hb, blk_below hb0 hb, hk0.below hb, (kv f0 (by decide)), fun _ => by rw [upd_eq], (kv f2 (by decide)), (kv f3 (by decide)), (⟨fun h2 => blk_below (f4.1 (fun h3 => h2 (.inl h3))) hb, fun h2 => (hns4 (h2.resolve_right (by decide))).elim⟩), (kv f5 (by decide)), (kv f6 (by decide))⟩)
              clear hb0 hk0 f0 f1 f2 f3 f4 f5 f6 hb hK
              go_simp
              simpa [upd, D0] using key
            case succ.succ.zero =>
              have hb := Below.refl W.heap.size W
              have key := hK.out (.pointer (some ⟨w5.heap.size, 3, none⟩)) W (by rw [hGM]; exact ⟨hB.next hb, blk_below hb0 hb, hk0.below hb, (kv f0 (by decide)), (kv f1 (by decide)), fun _ => by rw [upd_eq], (kv f3 (by decide)), (⟨fun h2 => blk_below (f4.1 (fun h3 => h2 (.inl h3))) hb, fun h2 => blk_below (f4.2 (h2.resolve_right (by decide))) hb⟩), (kv f5 (by decide)), (kv f6 (by decide))⟩)
              clear hb0 hk0 f0 f1 f2 f3 f4 f5 f6 hb hK
              go_simp
              simpa [upd] using key
            case succ.succ.succ.zero =>
              have d2 := f2 (haft { on := 2, ground := .data } (by simp) rfl)
              have D2 := d2
              have cc3 := (box_cell (v := .bool s5) hb0 3 rfl).1
              have hb := Below.refl W.heap.size W
              have key := hK.out (.bool s5) W (by rw [hGM]; exact ⟨hB.next hb, blk_below hb0 hb, hk0.below hb, (kv f0 (by decide)), (kv f1 (by decide)), (kv f2 (by decide)), fun _ => by rw [upd_eq], (⟨fun h2 => blk_below (f4.1 (fun h3 => h2 (.inl h3))) hb, fun h2 => blk_below (f4.2 (h2.resolve_right (by decide))) hb⟩), (kv f5 (by decide)), (kv f6 (by decide))⟩)
              clear hb0 hk0 f0 f1 f2 f3 f4 f5 f6 hb hK
              go_simp
              simpa [upd, D2] using key
            case succ.succ.succ.succ.zero =>
              have h_n := NE_XR_XA.out
              have hgb := f4.1 hnk
              have ds := f1 (haft { on := 1, ground := .data } (by simp) rfl)
              have es := ds
              refine wp_store_box 27 6 (.tmp 50) rfl rfl (g := w.heap.size) (e := 27) (v 1) [.bool b5, .slice A5 n5 c5, .int .i64 x5] (by first | rfl | exact rfl) rfl (by rw [es]; rfl) info_dyad ?_ hgb rfl ?_
              · intro q hq; simp at hq; rcases hq with rfl | rfl | rfl <;> rfl
              · intro w1 hw1 hg
                have key := hK.out undef w1 (by rw [hGM]; exact ⟨hB.grown hg (by omega), blk_grown hb0 hg (by omega), hk0.grown_box hgb (by decide) hg, (kv f0 (by decide)), (kv f1 (by decide)), (kv f2 (by decide)), (kv f3 (by decide)), ⟨fun h => (h (.inr rfl)).elim, fun _ => hw1⟩, (kv f5 (by decide)), (kv f6 (by decide))⟩)
                clear hb0 hk0 f0 f1 f2 f3 f4 f5 f6 hK
                simpa [upd] using key
            case succ.succ.succ.succ.succ.zero =>
              have d3 := f3 (haft { on := 3, ground := .data } (by simp) rfl)
              have D3 := d3
              have hb := Below.refl W.heap.size W
              have key := hK.out (.bool s5) W (by rw [hGM]; exact ⟨hB.next hb, blk_below hb0 hb, hk0.below hb, (kv f0 (by decide)), (kv f1 (by decide)), (kv f2 (by decide)), (kv f3 (by decide)), (⟨fun h2 => blk_below (f4.1 (fun h3 => h2 (.inl h3))) hb, fun h2 => blk_below (f4.2 (h2.resolve_right (by decide))) hb⟩), fun _ => by rw [upd_eq], (kv f6 (by decide))⟩)
              clear hb0 hk0 f0 f1 f2 f3 f4 f5 f6 hb hK
              go_simp
              simpa [upd, D3] using key
            case succ.succ.succ.succ.succ.succ.zero =>
              have hb := Below.refl W.heap.size W
              have key := hK.out (.int .i64 0) W (by rw [hGM]; exact ⟨hB.next hb, blk_below hb0 hb, hk0.below hb, (kv f0 (by decide)), (kv f1 (by decide)), (kv f2 (by decide)), (kv f3 (by decide)), (⟨fun h2 => blk_below (f4.1 (fun h3 => h2 (.inl h3))) hb, fun h2 => blk_below (f4.2 (h2.resolve_right (by decide))) hb⟩), (kv f5 (by decide)), fun _ => by rw [upd_eq]⟩)
              clear hb0 hk0 f0 f1 f2 f3 f4 f5 f6 hb hK
              go_simp
              simpa [upd] using key
          case hendM =>
            intro v W L0 hall hGv
            rw [hGM] at hGv
            obtain ⟨hB, hb0, hk0, f0, f1, f2, f3, f4, f5, f6⟩ := hGv
            have d5 := f5 (hall 5 (by decide))
            have d6 := f6 (hall 6 (by decide))
            have d4 := f4.2 (hall 4 (by decide))
            replace BEL := Aside0.mk hB
            replace XR := Aside0.mk d4
            replace PA := Aside0.mk hk0
            clear hall f0 f1 f2 f3 f4 f5 f6 hB hb0 hk0 d4
            simp only [setAll, List.setIfInBounds_toArray, List.set_cons_zero, List.set_cons_succ, List.set_nil, Nat.reduceAdd, d5, d6]
            go_wp2
            refine bodyPost_ret (results_list (rs := [.cell 6 27, .tmp 7, .tmp 8]) rfl (by simp) (Vals.box any_dyad info_dyad (g := w.heap.size) rfl XR.out rfl (.tmp (.tmp .nil)))) rfl ?_
            rw [HEE.out, HOO.out]
            obtain ⟨q1, q2⟩ := PT.d PA.out
            exact ⟨_, by rw [q2]; rfl, q1, BEL.out.1⟩
        case pos =>
          have hd : decide (p = 0) = true := decide_eq_true hp0
          have HP0 := Aside0.mk hp0
          clear hp0
          obtain ⟨q3, q3'⟩ := box_cell XX.out 0 rfl
          obtain ⟨q4, q4'⟩ := box_cell XX.out 1 rfl
          obtain ⟨q5, q5'⟩ := box_cell XX.out 2 rfl
          go_wp2_with fail
          clear q3 q3' q4 q4' q5 q5'
          go_at_call 22
          refine (zero_ok PX.out.c (ok_z HZX.out)).mono ?_
          rintro en5 w5 ⟨rfl, hb⟩
          replace BEL := Aside0.mk (BEL.out.next hb)
          replace XR := Aside0.mk (blk_below XR.out hb)
          replace XY := Aside0.mk (blk_below XY.out hb)
          replace XX := Aside0.mk (blk_below XX.out hb)
          replace PY := Aside0.mk (PY.out.below hb)
          replace PX := Aside0.mk (PX.out.below hb)
          clear hb
          by_cases hq0 : q = 0
          case pos =>
            have hdq : decide (q = 0) = true := decide_eq_true hq0
            have HEE : Aside0 (ee = 5) := ⟨by rw [HE.out]; rw [hd, hdq]; rfl⟩
            have HOO : Aside0 (eo = none) := ⟨by rw [HO.out, if_neg (fun h => by have := h.2; rw [hd, hdq] at this; cases this)]⟩
            clear hq0
            go_wp2_with (((with_reducible refine gate_store (p := 6) rfl ?_); go_must (refine store_box 27 6 (.tmp 44) rfl rfl rfl (g := w.heap.size) (e := 27) (.agg #[.bool false, .slice none 0 0, .int .i64 0]) ([.bool false, .slice none 0 0, .int .i64 0]) rfl rfl rfl info_dyad ?b1 XR.out rfl ?_; (case b1 => intro q hq; simp at hq; rcases hq with rfl | rfl | rfl <;> rfl); intro wb hbx hgx; have HX := Aside0.mk hbx; have HG := Aside0.mk hgx; clear hbx hgx)); replace PY := Aside0.mk (PY.out.grown_box XR.out (by decide) HG.out); replace PX := Aside0.mk (PX.out.grown_box XR.out (by decide) HG.out); replace BEL := Aside0.mk (BEL.out.grown HG.out (by omega)); replace XY := Aside0.mk (blk_grown XY.out HG.out (Ne.symm NE_XR_XY.out)); replace XX := Aside0.mk (blk_grown XX.out HG.out (Ne.symm NE_XR_XX.out)); replace XR := HX; clear HG)
            refine bodyPost_ret (results_list (rs := [.cell 6 27, .tmp 7, .tmp 8]) rfl (by simp) (Vals.box any_dyad info_dyad (g := w.heap.size) rfl XR.out rfl (.tmp (.tmp .nil)))) rfl ?_
            rw [HEE.out, HOO.out]
            exact ⟨_, rfl, PDy.zero _ _ _, BEL.out.1⟩
          case neg =>
            have hdq : decide (q = 0) = false := decide_eq_false hq0
            have HEE : Aside0 (ee = 0) := ⟨by rw [HE.out]; rw [hd, hdq]; rfl⟩
            have HOO : Aside0 (eo = angF f p q) := ⟨by rw [HO.out, if_pos (by rw [hd, hdq]; simp)]⟩
            clear hq0
            obtain ⟨q6, q6'⟩ := box_cell XY.out 0 rfl
            obtain ⟨q7, q7'⟩ := box_cell XY.out 1 rfl
            obtain ⟨q8, q8'⟩ := box_cell XY.out 2 rfl
            obtain ⟨q9, q9'⟩ := box_cell XX.out 0 rfl
            obtain ⟨q10, q10'⟩ := box_cell XX.out 1 rfl
            obtain ⟨q11, q11'⟩ := box_cell XX.out 2 rfl
            go_wp2_with fail
            have BLA := BEL
            clear q6 q6' q7 q7' q8 q8' q9 q9' q10 q10' q11 q11'
            go_at_call 23
            refine (angle_any PY.out.c PX.out.c HZY.out HZX.out (tab_below HT.out BEL.out.1)).mono ?_
            rintro en6 w6 ⟨v6, rfl, hr, hb⟩
            replace BEL := Aside0.mk (BEL.out.next hb)
            replace XR := Aside0.mk (blk_below XR.out hb)
            replace XY := Aside0.mk (blk_below XY.out hb)
            replace XX := Aside0.mk (blk_below XX.out hb)
            replace PY := Aside0.mk (PY.out.below hb)
            replace PX := Aside0.mk (PX.out.below hb)
            have PA := Aside0.mk hr
            obtain ⟨b6, A6, n6, c6, x6, s6, rfl, hs⟩ := hr.ex6
            have HS6 := Aside0.mk hs
            clear hs
            clear hr hb
            have BELo := BEL
            go_wp2_with (replace BEL := Aside0.mk ((BEL.out.alloc (.cells #[.bool false, .slice none 0 0, .int .i64 0, .bool false] 51)).less (j := 1) (by omega)); have HN := Aside0.mk (blk_new w6 (.cells #[.bool false, .slice none 0 0, .int .i64 0, .bool false] 51)); have L_XR := lt_blk XR.out; replace XR := Aside0.mk (blk_alloc XR.out (.cells #[.bool false, .slice none 0 0, .int .i64 0, .bool false] 51)); have L_XY := lt_blk XY.out; replace XY := Aside0.mk (blk_alloc XY.out (.cells #[.bool false, .slice none 0 0, .int .i64 0, .bool false] 51)); have L_XX := lt_blk XX.out; replace XX := Aside0.mk (blk_alloc XX.out (.cells #[.bool false, .slice none 0 0, .int .i64 0, .bool false] 51)); replace PY := Aside0.mk (PY.out.below (below_alloc (Below.refl _ _) (.cells #[.bool false, .slice none 0 0, .int .i64 0, .bool false] 51))); replace PX := Aside0.mk (PX.out.below (below_alloc (Below.refl _ _) (.cells #[.bool false, .slice none 0 0, .int .i64 0, .bool false] 51))); replace PA := Aside0.mk (PA.out.below (below_alloc (Below.refl _ _) (.cells #[.bool false, .slice none 0 0, .int .i64 0, .bool false] 51))); ((with_reducible refine gate_store (p := 13) rfl ?_); go_must (refine store_box 51 13 (.tmp 48) rfl rfl rfl (g := w6.heap.size) (e := 51) (.agg #[.bool b6, .slice A6 n6 c6, .int .i64 x6, .bool s6]) ([.bool b6, .slice A6 n6 c6, .int .i64 x6, .bool s6]) rfl rfl rfl info_told ?b1 HN.out rfl ?_; (case b1 => intro q hq; simp at hq; rcases hq with rfl | rfl | rfl | rfl <;> rfl); intro wb hbx hgx; have HX := Aside0.mk hbx; have HG := Aside0.mk hgx; clear hbx hgx)); replace PY := Aside0.mk (PY.out.grown_box HN.out (by decide) HG.out); replace PX := Aside0.mk (PX.out.grown_box HN.out (by decide) HG.out); replace PA := Aside0.mk (PA.out.grown_box HN.out (by decide) HG.out); have LB_XA := BELo.out.2; replace BEL := Aside0.mk (BEL.out.grown HG.out (Nat.le_trans (Nat.le_add_right _ _) LB_XA)); replace XR := Aside0.mk (blk_grown XR.out HG.out (Nat.ne_of_lt L_XR)); replace XY := Aside0.mk (blk_grown XY.out HG.out (Nat.ne_of_lt L_XY)); replace XX := Aside0.mk (blk_grown XX.out HG.out (Nat.ne_of_lt L_XX)); have NE_XR_XA := Aside0.mk (Nat.ne_of_lt L_XR); have NE_XY_XA := Aside0.mk (Nat.ne_of_lt L_XY); have NE_XX_XA := Aside0.mk (Nat.ne_of_lt L_XX); clear L_XR; clear L_XY; clear L_XX; have LL_XA := Aside0.mk LB_XA; clear LB_XA; have XA := HX; clear HG HN HX)
            go_upto_region 8 with fail
            obtain ⟨GN, hGN⟩ : ∃ G : (Nat → Prop) → (Nat → Value) → World → Prop, G = fun L v W => BelN w 1 W ∧ W.heap[w6.heap.size]? = some (.cells #[.bool b6, .slice A6 n6 c6, .int .i64 x6, .bool s6] 51 (0, 0)) ∧ PO W w.heap.size (.agg #[.bool b6, .slice A6 n6 c6, .int .i64 x6, .bool s6]) (angF f p q) ∧ (L 0 → (v 0) = .pointer (some ⟨w6.heap.size, 0, none⟩)) ∧ (L 1 → (v 1) = .agg #[.bool b6, .slice A6 n6 c6, .int .i64 x6]) ∧ (L 2 → (v 2) = .pointer (some ⟨w6.heap.size, 3, none⟩)) ∧ (L 3 → (v 3) = .bool s6) ∧ ((¬ L 4 → W.heap[w.heap.size]? = some (.cells #[.bool false, .slice none 0 0, .int .i64 0] 27 (0, 0))) ∧ (L 4 → W.heap[w.heap.size]? = some (.cells #[.bool b6, .slice A6 n6 c6, .int .i64 x6] 27 (0, 0)))) ∧ (L 5 → (v 5) = .bool s6) ∧ (L 6 → (v 6) = .int .i64 0) := ⟨_, rfl⟩
            refine wp_region_slotsV [49, 50, 51, 52, 99, 7, 8] (by kernel_rfl) (by kernel_rfl) (G := GN) ?h0N ?hstepN ?hendN
            case h0N =>
              intro v; rw [hGN]
              exact ⟨BEL.out.next (below_drew (Below.refl _ _)), blk_drew XA.out, (PA.out.below (below_drew (Below.refl _ _))).lower BLA.out.1.size, fun h => h.elim, fun h => h.elim, fun h => h.elim, fun h => h.elim, ⟨fun _ => blk_drew XR.out, fun h => h.elim⟩, fun h => h.elim, fun h => h.elim⟩
            case hstepN =>
              intro k o ho v W L hGv hnk haft hcl K hK
              rw [hGN] at hGv
              obtain ⟨hB, hb0, hk0, f0, f1, f2, f3, f4, f5, f6⟩ := hGv
              rcases k with _ | _ | _ | _ | _ | _ | _ | k
              all_goals first
                | (cases ho; done)
                | (obtain rfl := (Option.some.inj ho).symm
                   clear ho
                   rw [if_pos (by rfl)]
                   simp only [setAll, List.setIfInBounds_toArray, List.set_cons_zero, List.set_cons_succ, List.set_nil, List.getElem_toArray, List.getElem_cons_zero, List.getElem_cons_succ, Nat.reduceAdd] at haft hK ⊢)
              case zero =>
                have hb := Below.refl W.heap.size W
                have key := hK.out (.pointer (some ⟨w6.heap.size, 0, none⟩)) W (by rw [hGN]; exact ⟨hB.next hb, blk_below hb0 hb, hk0.below hb, fun _ => by rw [upd_eq], (kv f1 (by decide)), (kv f2 (by decide)), (kv f3 (by decide)), (⟨fun h2 => blk_below (f4.1 (fun h3 => h2 (.inl h3))) hb, fun h2 => blk_below (f4.2 (h2.resolve_right (by decide))) hb⟩), (kv f5 (by decide)), (kv f6 (by decide))⟩)
                clear hb0 hk0 f0 f1 f2 f3 f4 f5 f6 hb hK
                go_simp
                simpa [upd] using key
              case succ.zero =>
                have hns4 : ¬ L 4 := fun hs => hnk (hcl 4 _ rfl hs { on := 1, ground := .data } (by simp) rfl)
                have d0 := f0 (haft { on := 0, ground := .data } (by simp) rfl)
                have D0 := d0
                have cc0 := (box_cell (v := .bool b6) hb0 0 rfl).1
                have cc1 := (box_cell (v := .slice A6 n6 c6) hb0 1 rfl).1
                have cc2 := (box_cell (v := .int .i64 x6) hb0 2 rfl).1
                have hb := Below.refl W.heap.size W
                have key := hK.out (.agg #[.bool b6, .slice A6 n6 c6, .int .i64 x6]) W (by rw [hGN]; exact ⟨hB.next hb, blk_below hb0 hb, hk0.below hb, (kv f0 (by decide)), fun _ => by rw [upd_eq], (kv f2 (by decide)), (kv f3 (by decide)), (⟨fun h2 => blk_below (f4.1 (fun h3 => h2 (.inl h3))) hb, fun h2 => (hns4 (h2.resolve_right (by decide))).elim⟩), (kv f5 (by decide)), (kv f6 (by decide))⟩)
                clear hb0 hk0 f0 f1 f2 f3 f4 f5 f6 hb hK
                go_simp
                simpa [upd, D0] using key
              case succ.succ.zero =>
                have hb := Below.refl W.heap.size W
                have key := hK.out (.pointer (some ⟨w6.heap.size, 3, none⟩)) W (by rw [hGN]; exact ⟨hB.next hb, blk_below hb0 hb, hk0.below hb, (kv f0 (by decide)), (kv f1 (by decide)), fun _ => by rw [upd_eq], (kv f3 (by decide)), (⟨fun h2 => blk_below (f4.1 (fun h3 => h2 (.inl h3))) hb, fun h2 => blk_below (f4.2 (h2.resolve_right (by decide))) hb⟩), (kv f5 (by decide)), (kv f6 (by decide))⟩)
                clear hb0 hk0 f0 f1 f2 f3 f4 f5 f6 hb hK
                go_simp
                simpa [upd] using key
              case succ.succ.succ.zero =>
                have d2 := f2 (haft { on := 2, ground := .data } (by simp) rfl)
                have D2 := d2
                have cc3 := (box_cell (v := .bool s6) hb0 3 rfl).1
                have hb := Below.refl W.heap.size W
                have key := hK.out (.bool s6) W (by rw [hGN]; exact ⟨hB.next hb, blk_below hb0 hb, hk0.below hb, (kv f0 (by decide)), (kv f1 (by decide)), (kv f2 (by decide)), fun _ => by rw [upd_eq], (⟨fun h2 => blk_below (f4.1 (fun h3 => h2 (.inl h3))) hb, fun h2 => blk_below (f4.2 (h2.resolve_right (by decide))) hb⟩), (kv f5 (by decide)), (kv f6 (by decide))⟩)
                clear hb0 hk0 f0 f1 f2 f3 f4 f5 f6 hb hK
                go_simp
                simpa [upd, D2] using key
              case succ.succ.succ.succ.zero =>
                have h_n := NE_XR_XA.out
                have hgb := f4.1 hnk
                have ds := f1 (haft { on := 1, ground := .data } (by simp) rfl)
                have es := ds
                refine wp_store_box 27 6 (.tmp 50) rfl rfl (g := w.heap.size) (e := 27) (v 1) [.bool b6, .slice A6 n6 c6, .int .i64 x6] (by first | rfl | exact rfl) rfl (by rw [es]; rfl) info_dyad ?_ hgb rfl ?_
                · intro q hq; simp at hq; rcases hq with rfl | rfl | rfl <;> rfl
                · intro w1 hw1 hg
                  have key := hK.out undef w1 (by rw [hGN]; exact ⟨hB.grown hg (by omega), blk_grown hb0 hg (by omega), hk0.grown_box hgb (by decide) hg, (kv f0 (by decide)), (kv f1 (by decide)), (kv f2 (by decide)), (kv f3 (by decide)), ⟨fun h => (h (.inr rfl)).elim, fun _ => hw1⟩, (kv f5 (by decide)), (kv f6 (by decide))⟩)
                  clear hb0 hk0 f0 f1 f2 f3 f4 f5 f6 hK
                  simpa [upd] using key
              case succ.succ.succ.succ.succ.zero =>
                have d3 := f3 (haft { on := 3, ground := .data } (by simp) rfl)
                have D3 := d3
                have hb := Below.refl W.heap.size W
                have key := hK.out (.bool s6) W (by rw [hGN]; exact ⟨hB.next hb, blk_below hb0 hb, hk0.below hb, (kv f0 (by decide)), (kv f1 (by decide)), (kv f2 (by decide)), (kv f3 (by decide)), (⟨fun h2 => blk_below (f4.1 (fun h3 => h2 (.inl h3))) hb, fun h2 => blk_below (f4.2 (h2.resolve_right (by decide))) hb⟩), fun _ => by rw [upd_eq], (kv f6 (by decide))⟩)
                clear hb0 hk0 f0 f1 f2 f3 f4 f5 f6 hb hK
                go_simp
                simpa [upd, D3] using key
              case succ.succ.succ.succ.succ.succ.zero =>
                have hb := Below.refl W.heap.size W
                have key := hK.out (.int .i64 0) W (by rw [hGN]; exact ⟨hB.next hb, blk_below hb0 hb, hk0.below hb, (kv f0 (by decide)), (kv f1 (by decide)), (kv f2 (by decide)), (kv f3 (by decide)), (⟨fun h2 => blk_below (f4.1 (fun h3 => h2 (.inl h3))) hb, fun h2 => blk_below (f4.2 (h2.resolve_right (by decide))) hb⟩), (kv f5 (by decide)), fun _ => by rw [upd_eq]⟩)
                clear hb0 hk0 f0 f1 f2 f3 f4 f5 f6 hb hK
                go_simp
                simpa [upd] using key
            case hendN =>
              intro v W L0 hall hGv
              rw [hGN] at hGv
              obtain ⟨hB, hb0, hk0, f0, f1, f2, f3, f4, f5, f6⟩ := hGv
              have d5 := f5 (hall 5 (by decide))
              have d6 := f6 (hall 6 (by decide))
              have d4 := f4.2 (hall 4 (by decide))
              replace BEL := Aside0.mk hB
              replace XR := Aside0.mk d4
              replace PA := Aside0.mk hk0
              clear hall f0 f1 f2 f3 f4 f5 f6 hB hb0 hk0 d4
              simp only [setAll, List.setIfInBounds_toArray, List.set_cons_zero, List.set_cons_succ, List.set_nil, Nat.reduceAdd, d5, d6]
              go_wp2
              refine bodyPost_ret (results_list (rs := [.cell 6 27, .tmp 7, .tmp 8]) rfl (by simp) (Vals.box any_dyad info_dyad (g := w.heap.size) rfl XR.out rfl (.tmp (.tmp .nil)))) rfl ?_
              rw [HEE.out, HOO.out]
              obtain ⟨q1, q2⟩ := PT.d PA.out
              exact ⟨_, by rw [q2]; rfl, q1, BEL.out.1⟩
end Go.Proofs.YtgpjplelgffocaaDoor

namespace Go.Proofs.YtgpjplelgffocaaDoor
open Go.RowKit Go.Proofs.YtgpjplelgffocaaDoorW.PrintWords Limb
set_option linter.unusedVariables false
set_option linter.unusedSimpArgs false
theorem live1 : (exE 9 4652007308841189376, exO 9 4652007308841189376) = (0, some (3, 0)) := by kernel_rfl
theorem live2 : (exE 18 4598175219545276416, exO 18 4598175219545276416) = (0, some (1, 0)) := by kernel_rfl
theorem live3 : exE 18 4602678819172646912 = 5 := by kernel_rfl
theorem live4 : (exE2 34 4607182418800017408 13830554455654793216, exO2 34 4607182418800017408 13830554455654793216) = (0, some (3, -2)) := by kernel_rfl
theorem live5 : domF 7 4607182418800017408 = true := by kernel_rfl
end Go.Proofs.YtgpjplelgffocaaDoor

namespace Go.Proofs.YtgpjplelgffocaaDoor
open Go.RowKit Go.Proofs.YtgpjplelgffocaaDoorW.PrintWords Limb
set_option linter.unusedVariables false
set_option linter.unusedSimpArgs false

theorem tabs_step {T : List (Option Value)} {L : Nat → Prop} {v : Nat → Value} {k : Nat} {x : Value} (h : ∀ j c, L j → T[j]? = some (some c) → v j = c) (hk : ∀ c, T[k]? = some (some c) → x = c) : ∀ j c, (L j ∨ j = k) → T[j]? = some (some c) → upd v k x j = c := by
  intro j c hj ht
  by_cases he : j = k
  · subst he; rw [upd_eq]; exact hk c ht
  · rw [upd_ne v _ he]; exact h j c (hj.resolve_right he) ht
theorem RDy.ex {w : World} {b : Nat} {v : Value} {z e : Int} (h : RDy w b v z e) : ∃ bb A n c x, v = .agg #[.bool bb, .slice A n c, .int .i64 x] := by
  obtain ⟨A, n, c, rfl, hr⟩ := h
  exact ⟨_, _, _, _, _, rfl⟩
theorem RDy.grown_box {w w1 : World} {b g : Nat} {v : Value} {z e : Int} {t : TypeId} {cells : Array Value} (h : RDy w b v z e) (hb : w.heap[g]? = some (.cells cells t (0, 0))) (ht : 23 ≠ t) (hg : w.grownBy w1 (some g)) : RDy w1 b v z e := by
  obtain ⟨A, n, c, rfl, hr⟩ := h
  refine ⟨A, n, c, rfl, Kd.R_mono (Kd.R_grown (Kd.R_types hr hb ?_) hg ?_) (fun _ _ => trivial)⟩
  · intro q hq
    rcases List.mem_cons.1 hq with rfl | hq
    · exact ht
    · cases hq
  · rintro k ⟨_, hk⟩ he
    cases he
    exact hk rfl
theorem CDy.lit {w : World} {g : Nat} {b : Bool} {m : Nat} {e : Int} (h : w.heap[g]? = some (.cells #[.int .u64 (m : Int)] 23 (0, 0))) (hC : kU.C w (some ⟨g, 0, none⟩) 1 [m]) (hl : limbs (cman (sgn b m)) = [m]) (h1 : cneg (sgn b m) = b) (h2 : cexp (sgn b m) e = e) :
    CDy w (.agg #[.bool b, .slice (some ⟨g, 0, none⟩) 1 1, .int .i64 e]) (sgn b m) e := ⟨some ⟨g, 0, none⟩, 1, 1, by rw [h1, h2], by rw [hl]; exact hC, by rw [hl]; rfl, Nat.le_refl _⟩
theorem row_c (w : World) (x : Nat) : kU.C (w.alloc (.cells #[.int .u64 (x : Int)] 23)) (some ⟨w.heap.size, 0, none⟩) 1 [x] := by
  obtain ⟨A, c, he, _, hC⟩ := Kd.R_reads (row_one w x)
  injection he with h1 h2 h3
  subst h1 h3
  exact hC
set_option maxRecDepth 100000 in
set_option maxHeartbeats 8000000 in
theorem dint_neg {n : Int} (w : World) (hn : n < 0) (h1 : -9223372036854775808 ≤ n) (h2 : n < 9223372036854775808) :
    Calls Tryd.prog 14 #[.int .i64 n] w fun en w' => ∃ v', en = .returned v' ∧ RDy w' w.heap.size v' n 0 ∧ Below w.heap.size w w' := by
  obtain ⟨m, hm⟩ : ∃ m, m = n.natAbs := ⟨_, rfl⟩
  have hm64 : m < 18446744073709551616 := by omega
  have QO := Aside0.mk (fun (W : World) => of_any m hm64 W)
  have QF := Aside0.mk (fun (A : Option Addr) (c : Nat) (W : World) (hC : kU.C W A (limbs m).length (limbs m)) (hc : (limbs m).length ≤ c) => (by
    have hl : (limbs m).length ≤ 1 := limbs_len_le (by omega)
    have q := form_any (decide (n < 0)) (limbs m) A _ c 0 rfl W hC hc (wf_limbs _) (by omega) (by omega) (by omega)
    rw [nv_limbs, hm, show sgn (decide (n < 0)) n.natAbs = n from sgn_self n, ← hm] at q
    exact q : Calls Tryd.prog 35 #[.bool (decide (n < 0)), .slice A (limbs m).length c, .int .i64 0] W fun en w' => ∃ v', en = .returned v' ∧ RDy w' W.heap.size v' n 0 ∧ Below W.heap.size W w'))
  obtain ⟨a0, e1, e2⟩ : ∃ a0 : Nat, IntKind.u64.wrap n = (a0 : Int) ∧ IntKind.u64.wrap (-(a0 : Int)) = (m : Int) := ⟨(n % 18446744073709551616).toNat, by unfold IntKind.wrap; simp [IntKind.bits, IntKind.signed]; omega, by unfold IntKind.wrap; simp [IntKind.bits, IntKind.signed]; omega⟩
  have e3 : IntKind.u64.wrap (0 - (a0 : Int)) = (m : Int) := by rw [Int.zero_sub]; exact e2
  have hd : decide (n < 0) = true := decide_eq_true hn
  rw [hd] at QF
  clear hm h1 h2
  go_enter Tryd.func14, Tryd.ntmps14
  have BEL : Aside0 (BelN w 1 (w.alloc (.cells #[.bool false, .slice none 0 0, .int .i64 0] 27))) := ⟨((BelN.zero w).alloc _).less (by decide)⟩
  have XR : Aside0 ((w.alloc (.cells #[.bool false, .slice none 0 0, .int .i64 0] 27)).heap[w.heap.size]? = some (.cells #[.bool false, .slice none 0 0, .int .i64 0] 27 (0, 0))) := ⟨by have h := blk_new w (.cells #[.bool false, .slice none 0 0, .int .i64 0] 27); exact h⟩
  go_wp2_with fail
  go_at_call 36
  refine (QO.out _).mono ?_
  rintro en1 w1 ⟨v1, rfl, ho, hb⟩
  replace BEL := Aside0.mk (BEL.out.next hb)
  replace XR := Aside0.mk (blk_below XR.out hb)
  obtain ⟨A1, c1, rfl, hc1, hC1⟩ := Kd.R_reads ho
  have HC := Aside0.mk hC1
  have HCC := Aside0.mk hc1
  clear ho hb hC1 hc1
  go_wp2_with fail
  go_at_call 35
  refine (QF.out _ _ _ HC.out HCC.out).mono ?_
  have BL0 := BEL
  rintro en2 w2 ⟨v2, rfl, hr, hb⟩
  replace BEL := Aside0.mk (BEL.out.next hb)
  replace XR := Aside0.mk (blk_below XR.out hb)
  have P2 := Aside0.mk hr
  obtain ⟨b2, A2, n2, c2, x2, rfl⟩ := hr.ex
  clear hr hb
  go_wp2_with (((with_reducible refine gate_store (p := 2) rfl ?_); go_must (refine store_box 27 2 (.tmp 9) rfl rfl rfl (g := w.heap.size) (e := 27) (.agg #[.bool b2, .slice A2 n2 c2, .int .i64 x2]) ([.bool b2, .slice A2 n2 c2, .int .i64 x2]) rfl rfl rfl info_dyad ?b1 XR.out rfl ?_; (case b1 => intro q hq; simp at hq; rcases hq with rfl | rfl | rfl <;> rfl); intro wb hbx hgx; have HX := Aside0.mk hbx; have HG := Aside0.mk hgx; clear hbx hgx)); replace P2 := Aside0.mk (P2.out.grown_box XR.out (by decide) HG.out); replace BEL := Aside0.mk (BEL.out.grown HG.out (by omega)); replace XR := HX; clear HG)
  refine bodyPost_ret (results_dyad rfl _ _ (w.heap.size) _ rfl XR.out rfl) rfl ?_
  exact ⟨_, rfl, P2.out.lower BL0.out.1.size, BEL.out.1⟩

set_option maxRecDepth 100000 in
set_option maxHeartbeats 8000000 in
theorem dint_pos {n : Int} (w : World) (hn : ¬ n < 0) (h1 : -9223372036854775808 ≤ n) (h2 : n < 9223372036854775808) :
    Calls Tryd.prog 14 #[.int .i64 n] w fun en w' => ∃ v', en = .returned v' ∧ RDy w' w.heap.size v' n 0 ∧ Below w.heap.size w w' := by
  obtain ⟨m, hm⟩ : ∃ m, m = n.natAbs := ⟨_, rfl⟩
  have hm64 : m < 18446744073709551616 := by omega
  have QO := Aside0.mk (fun (W : World) => of_any m hm64 W)
  have QF := Aside0.mk (fun (A : Option Addr) (c : Nat) (W : World) (hC : kU.C W A (limbs m).length (limbs m)) (hc : (limbs m).length ≤ c) => (by
    have hl : (limbs m).length ≤ 1 := limbs_len_le (by omega)
    have q := form_any (decide (n < 0)) (limbs m) A _ c 0 rfl W hC hc (wf_limbs _) (by omega) (by omega) (by omega)
    rw [nv_limbs, hm, show sgn (decide (n < 0)) n.natAbs = n from sgn_self n, ← hm] at q
    exact q : Calls Tryd.prog 35 #[.bool (decide (n < 0)), .slice A (limbs m).length c, .int .i64 0] W fun en w' => ∃ v', en = .returned v' ∧ RDy w' W.heap.size v' n 0 ∧ Below W.heap.size W w'))
  have e1 : IntKind.u64.wrap n = (m : Int) := by unfold IntKind.wrap; simp [IntKind.bits, IntKind.signed]; omega
  have hd : decide (n < 0) = false := decide_eq_false hn
  have hn2 : 0 ≤ n := by omega
  rw [hd] at QF
  clear hm h1 h2 hn
  go_enter Tryd.func14, Tryd.ntmps14
  have BEL : Aside0 (BelN w 1 (w.alloc (.cells #[.bool false, .slice none 0 0, .int .i64 0] 27))) := ⟨((BelN.zero w).alloc _).less (by decide)⟩
  have XR : Aside0 ((w.alloc (.cells #[.bool false, .slice none 0 0, .int .i64 0] 27)).heap[w.heap.size]? = some (.cells #[.bool false, .slice none 0 0, .int .i64 0] 27 (0, 0))) := ⟨by have h := blk_new w (.cells #[.bool false, .slice none 0 0, .int .i64 0] 27); exact h⟩
  go_wp2_with fail
  go_at_call 36
  refine (QO.out _).mono ?_
  rintro en1 w1 ⟨v1, rfl, ho, hb⟩
  replace BEL := Aside0.mk (BEL.out.next hb)
  replace XR := Aside0.mk (blk_below XR.out hb)
  obtain ⟨A1, c1, rfl, hc1, hC1⟩ := Kd.R_reads ho
  have HC := Aside0.mk hC1
  have HCC := Aside0.mk hc1
  clear ho hb hC1 hc1
  go_wp2_with fail
  go_at_call 35
  refine (QF.out _ _ _ HC.out HCC.out).mono ?_
  have BL0 := BEL
  rintro en2 w2 ⟨v2, rfl, hr, hb⟩
  replace BEL := Aside0.mk (BEL.out.next hb)
  replace XR := Aside0.mk (blk_below XR.out hb)
  have P2 := Aside0.mk hr
  obtain ⟨b2, A2, n2, c2, x2, rfl⟩ := hr.ex
  clear hr hb
  go_wp2_with (((with_reducible refine gate_store (p := 2) rfl ?_); go_must (refine store_box 27 2 (.tmp 13) rfl rfl rfl (g := w.heap.size) (e := 27) (.agg #[.bool b2, .slice A2 n2 c2, .int .i64 x2]) ([.bool b2, .slice A2 n2 c2, .int .i64 x2]) rfl rfl rfl info_dyad ?b1 XR.out rfl ?_; (case b1 => intro q hq; simp at hq; rcases hq with rfl | rfl | rfl <;> rfl); intro wb hbx hgx; have HX := Aside0.mk hbx; have HG := Aside0.mk hgx; clear hbx hgx)); replace P2 := Aside0.mk (P2.out.grown_box XR.out (by decide) HG.out); replace BEL := Aside0.mk (BEL.out.grown HG.out (by omega)); replace XR := HX; clear HG)
  refine bodyPost_ret (results_dyad rfl _ _ (w.heap.size) _ rfl XR.out rfl) rfl ?_
  exact ⟨_, rfl, P2.out.lower BL0.out.1.size, BEL.out.1⟩

theorem dint_any (n : Int) (w : World) (h1 : -9223372036854775808 ≤ n) (h2 : n < 9223372036854775808) :
    Calls Tryd.prog 14 #[.int .i64 n] w fun en w' => ∃ v', en = .returned v' ∧ RDy w' w.heap.size v' n 0 ∧ Below w.heap.size w w' := by
  by_cases hn : n < 0
  · exact dint_neg w hn h1 h2
  · exact dint_pos w hn h1 h2
theorem same_ok {u v : Value} {y z e e' : Int} {w : World} (h : CDy w u y e) (h' : CDy w v z e') (o : Ok y e) :
    Calls Tryd.prog 10 #[u, v] w fun en w' => en = .returned (.bool (decide (cneg y = cneg z ∧ cexp y e = cexp z e' ∧ cman y = cman z))) ∧ Below w.heap.size w w' := same_any' u v y z e e' w h h' o.len30 (Int.le_trans (by decide) o.lo) (Int.le_trans o.hi (by decide))
theorem same_self {u v : Value} {y e : Int} {w : World} (h : CDy w u y e) (h' : CDy w v y e) (o : Ok y e) :
    Calls Tryd.prog 10 #[u, v] w fun en w' => en = .returned (.bool true) ∧ Below w.heap.size w w' := by
  have q := same_ok h h' o
  rw [decide_eq_true (⟨rfl, rfl, rfl⟩ : cneg y = cneg y ∧ cexp y e = cexp y e ∧ cman y = cman y)] at q
  exact q
theorem live1a : exE 9 4652007308841189376 = 0 := (Prod.mk.inj live1).1
theorem live1b : exO 9 4652007308841189376 = some (3, 0) := (Prod.mk.inj live1).2
theorem live2a : exE 18 4598175219545276416 = 0 := (Prod.mk.inj live2).1
theorem live2b : exO 18 4598175219545276416 = some (1, 0) := (Prod.mk.inj live2).2
theorem live3b : exO 18 4602678819172646912 = none := by kernel_rfl
theorem live4a : exE2 34 4607182418800017408 13830554455654793216 = 0 := (Prod.mk.inj live4).1
theorem live4b : exO2 34 4607182418800017408 13830554455654793216 = some (3, -2) := (Prod.mk.inj live4).2

set_option maxRecDepth 100000 in
set_option maxHeartbeats 8000000 in
theorem lives_any (w : World) (hT : TabAt 0 Lib.deBruijn64tab w) :
    Calls Tryd.prog 9 #[] w fun en w' => en = .returned (.bool true) ∧ Below w.heap.size w w' := by
  have HT := Aside0.mk hT
  have BEL := Aside0.mk (BelN.zero w)
  have Q1 := Aside0.mk (fun (W : World) (ht : TabAt 0 Lib.deBruijn64tab W) => (by
    have q := exact_any 9 4652007308841189376 (by decide) (by decide) W ht
    rw [live1a, live1b] at q
    exact q : Calls Tryd.prog 11 #[.int .u8 9, .int .u64 4652007308841189376] W fun en w' => ∃ v', en = .returned (.tuple #[v', .bool true, .int .i64 0]) ∧ PDy w' W.heap.size v' (3) (0) ∧ Below W.heap.size W w'))
  have Q2 := Aside0.mk (fun (W : World) (ht : TabAt 0 Lib.deBruijn64tab W) => (by
    have q := exact_any 18 4598175219545276416 (by decide) (by decide) W ht
    rw [live2a, live2b] at q
    exact q : Calls Tryd.prog 11 #[.int .u8 18, .int .u64 4598175219545276416] W fun en w' => ∃ v', en = .returned (.tuple #[v', .bool true, .int .i64 0]) ∧ PDy w' W.heap.size v' (1) (0) ∧ Below W.heap.size W w'))
  have Q3 := Aside0.mk (fun (W : World) (ht : TabAt 0 Lib.deBruijn64tab W) => (by
    have q := exact_any 18 4602678819172646912 (by decide) (by decide) W ht
    rw [live3, live3b] at q
    exact q : Calls Tryd.prog 11 #[.int .u8 18, .int .u64 4602678819172646912] W fun en w' => ∃ v', en = .returned (.tuple #[v', .bool false, .int .i64 5]) ∧ PDy w' W.heap.size v' (0) (0) ∧ Below W.heap.size W w'))
  have Q4 := Aside0.mk (fun (W : World) (ht : TabAt 0 Lib.deBruijn64tab W) => (by
    have q := exact2_any 34 4607182418800017408 13830554455654793216 (by decide) (by decide) (by decide) W ht
    rw [live4a, live4b] at q
    exact q : Calls Tryd.prog 7 #[.int .u8 34, .int .u64 4607182418800017408, .int .u64 13830554455654793216] W fun en w' => ∃ v', en = .returned (.tuple #[v', .bool true, .int .i64 0]) ∧ PDy w' W.heap.size v' (3) (-2) ∧ Below W.heap.size W w'))
  have QD := Aside0.mk (fun (W : World) (ht : TabAt 0 Lib.deBruijn64tab W) => (by
    have q := domain_any 7 4607182418800017408 (by decide) (by decide) W ht
    rw [live5] at q
    exact q : Calls Tryd.prog 28 #[.int .u8 7, .int .u64 4607182418800017408] W fun en w' => en = .returned (.bool true) ∧ Below W.heap.size W w'))
  clear hT
  go_enter Tryd.func9, Tryd.ntmps9
  go_wp2_with fail
  go_at_call 11
  refine (Q1.out _ (tab_below HT.out BEL.out.1)).mono ?_
  rintro en1 w1 ⟨v1, rfl, hr, hb⟩
  replace BEL := Aside0.mk (BEL.out.next hb)
  have P1 := Aside0.mk hr
  obtain ⟨b1, A1, n1, c1, x1, rfl⟩ := hr.ex
  clear hr hb
  have BELo := BEL
  go_wp2_with (replace BEL := Aside0.mk ((BEL.out.alloc (.cells #[.bool false, .slice none 0 0, .int .i64 0] 27)).less (j := 0) (by omega)); have HN := Aside0.mk (blk_new w1 (.cells #[.bool false, .slice none 0 0, .int .i64 0] 27)); replace P1 := Aside0.mk (P1.out.below (below_alloc (Below.refl _ _) (.cells #[.bool false, .slice none 0 0, .int .i64 0] 27))); ((with_reducible refine gate_store (p := 1) rfl ?_); go_must (refine store_box 27 1 (.tmp 15) rfl rfl rfl (g := w1.heap.size) (e := 27) (.agg #[.bool b1, .slice A1 n1 c1, .int .i64 x1]) ([.bool b1, .slice A1 n1 c1, .int .i64 x1]) rfl rfl rfl info_dyad ?b1 HN.out rfl ?_; (case b1 => intro q hq; simp at hq; rcases hq with rfl | rfl | rfl <;> rfl); intro wb hbx hgx; have HX := Aside0.mk hbx; have HG := Aside0.mk hgx; clear hbx hgx)); replace P1 := Aside0.mk (P1.out.grown_box HN.out (by decide) HG.out); have LB_X1 := BELo.out.2; replace BEL := Aside0.mk (BEL.out.grown HG.out (Nat.le_trans (Nat.le_add_right _ _) LB_X1)); have LL_X1 := Aside0.mk LB_X1; clear LB_X1; have X1 := HX; clear HG HN HX)
  go_at_call 11
  refine (Q2.out _ (tab_below HT.out BEL.out.1)).mono ?_
  rintro en2 w2 ⟨v2, rfl, hr, hb⟩
  replace BEL := Aside0.mk (BEL.out.next hb)
  replace X1 := Aside0.mk (blk_below X1.out hb)
  replace P1 := Aside0.mk (P1.out.below hb)
  have P2 := Aside0.mk hr
  obtain ⟨b2, A2, n2, c2, x2, rfl⟩ := hr.ex
  clear hr hb
  have BELo := BEL
  go_wp2_with (replace BEL := Aside0.mk ((BEL.out.alloc (.cells #[.bool false, .slice none 0 0, .int .i64 0] 27)).less (j := 0) (by omega)); have HN := Aside0.mk (blk_new w2 (.cells #[.bool false, .slice none 0 0, .int .i64 0] 27)); have L_X1 := lt_blk X1.out; replace X1 := Aside0.mk (blk_alloc X1.out (.cells #[.bool false, .slice none 0 0, .int .i64 0] 27)); replace P1 := Aside0.mk (P1.out.below (below_alloc (Below.refl _ _) (.cells #[.bool false, .slice none 0 0, .int .i64 0] 27))); replace P2 := Aside0.mk (P2.out.below (below_alloc (Below.refl _ _) (.cells #[.bool false, .slice none 0 0, .int .i64 0] 27))); ((with_reducible refine gate_store (p := 4) rfl ?_); go_must (refine store_box 27 4 (.tmp 20) rfl rfl rfl (g := w2.heap.size) (e := 27) (.agg #[.bool b2, .slice A2 n2 c2, .int .i64 x2]) ([.bool b2, .slice A2 n2 c2, .int .i64 x2]) rfl rfl rfl info_dyad ?b1 HN.out rfl ?_; (case b1 => intro q hq; simp at hq; rcases hq with rfl | rfl | rfl <;> rfl); intro wb hbx hgx; have HX := Aside0.mk hbx; have HG := Aside0.mk hgx; clear hbx hgx)); replace P1 := Aside0.mk (P1.out.grown_box HN.out (by decide) HG.out); replace P2 := Aside0.mk (P2.out.grown_box HN.out (by decide) HG.out); have LB_X2 := BELo.out.2; replace BEL := Aside0.mk (BEL.out.grown HG.out (Nat.le_trans (Nat.le_add_right _ _) LB_X2)); replace X1 := Aside0.mk (blk_grown X1.out HG.out (Nat.ne_of_lt L_X1)); have NE_X1_X2 := Aside0.mk (Nat.ne_of_lt L_X1); clear L_X1; have LL_X2 := Aside0.mk LB_X2; clear LB_X2; have X2 := HX; clear HG HN HX)
  go_at_call 11
  refine (Q3.out _ (tab_below HT.out BEL.out.1)).mono ?_
  rintro en3 w3 ⟨v3, rfl, hr, hb⟩
  replace BEL := Aside0.mk (BEL.out.next hb)
  replace X1 := Aside0.mk (blk_below X1.out hb)
  replace X2 := Aside0.mk (blk_below X2.out hb)
  replace P1 := Aside0.mk (P1.out.below hb)
  replace P2 := Aside0.mk (P2.out.below hb)
  have P3 := Aside0.mk hr
  obtain ⟨b3, A3, n3, c3, x3, rfl⟩ := hr.ex
  clear hr hb
  have BELo := BEL
  go_wp2_with (replace BEL := Aside0.mk ((BEL.out.alloc (.cells #[.bool false, .slice none 0 0, .int .i64 0] 27)).less (j := 0) (by omega)); have HN := Aside0.mk (blk_new w3 (.cells #[.bool false, .slice none 0 0, .int .i64 0] 27)); have L_X1 := lt_blk X1.out; replace X1 := Aside0.mk (blk_alloc X1.out (.cells #[.bool false, .slice none 0 0, .int .i64 0] 27)); have L_X2 := lt_blk X2.out; replace X2 := Aside0.mk (blk_alloc X2.out (.cells #[.bool false, .slice none 0 0, .int .i64 0] 27)); replace P1 := Aside0.mk (P1.out.below (below_alloc (Below.refl _ _) (.cells #[.bool false, .slice none 0 0, .int .i64 0] 27))); replace P2 := Aside0.mk (P2.out.below (below_alloc (Below.refl _ _) (.cells #[.bool false, .slice none 0 0, .int .i64 0] 27))); replace P3 := Aside0.mk (P3.out.below (below_alloc (Below.refl _ _) (.cells #[.bool false, .slice none 0 0, .int .i64 0] 27))); ((with_reducible refine gate_store (p := 7) rfl ?_); go_must (refine store_box 27 7 (.tmp 25) rfl rfl rfl (g := w3.heap.size) (e := 27) (.agg #[.bool b3, .slice A3 n3 c3, .int .i64 x3]) ([.bool b3, .slice A3 n3 c3, .int .i64 x3]) rfl rfl rfl info_dyad ?b1 HN.out rfl ?_; (case b1 => intro q hq; simp at hq; rcases hq with rfl | rfl | rfl <;> rfl); intro wb hbx hgx; have HX := Aside0.mk hbx; have HG := Aside0.mk hgx; clear hbx hgx)); replace P1 := Aside0.mk (P1.out.grown_box HN.out (by decide) HG.out); replace P2 := Aside0.mk (P2.out.grown_box HN.out (by decide) HG.out); replace P3 := Aside0.mk (P3.out.grown_box HN.out (by decide) HG.out); have LB_X3 := BELo.out.2; replace BEL := Aside0.mk (BEL.out.grown HG.out (Nat.le_trans (Nat.le_add_right _ _) LB_X3)); replace X1 := Aside0.mk (blk_grown X1.out HG.out (Nat.ne_of_lt L_X1)); replace X2 := Aside0.mk (blk_grown X2.out HG.out (Nat.ne_of_lt L_X2)); have NE_X1_X3 := Aside0.mk (Nat.ne_of_lt L_X1); have NE_X2_X3 := Aside0.mk (Nat.ne_of_lt L_X2); clear L_X1; clear L_X2; have LL_X3 := Aside0.mk LB_X3; clear LB_X3; have X3 := HX; clear HG HN HX)
  go_at_call 7
  refine (Q4.out _ (tab_below HT.out BEL.out.1)).mono ?_
  rintro en4 w4 ⟨v4, rfl, hr, hb⟩
  replace BEL := Aside0.mk (BEL.out.next hb)
  replace X1 := Aside0.mk (blk_below X1.out hb)
  replace X2 := Aside0.mk (blk_below X2.out hb)
  replace X3 := Aside0.mk (blk_below X3.out hb)
  replace P1 := Aside0.mk (P1.out.below hb)
  replace P2 := Aside0.mk (P2.out.below hb)
  replace P3 := Aside0.mk (P3.out.below hb)
  have P4 := Aside0.mk hr
  obtain ⟨b4, A4, n4, c4, x4, rfl⟩ := hr.ex
  clear hr hb
  have BELo := BEL
  go_wp2_with (replace BEL := Aside0.mk ((BEL.out.alloc (.cells #[.bool false, .slice none 0 0, .int .i64 0] 27)).less (j := 0) (by omega)); have HN := Aside0.mk (blk_new w4 (.cells #[.bool false, .slice none 0 0, .int .i64 0] 27)); have L_X1 := lt_blk X1.out; replace X1 := Aside0.mk (blk_alloc X1.out (.cells #[.bool false, .slice none 0 0, .int .i64 0] 27)); have L_X2 := lt_blk X2.out; replace X2 := Aside0.mk (blk_alloc X2.out (.cells #[.bool false, .slice none 0 0, .int .i64 0] 27)); have L_X3 := lt_blk X3.out; replace X3 := Aside0.mk (blk_alloc X3.out (.cells #[.bool false, .slice none 0 0, .int .i64 0] 27)); replace P1 := Aside0.mk (P1.out.below (below_alloc (Below.refl _ _) (.cells #[.bool false, .slice none 0 0, .int .i64 0] 27))); replace P2 := Aside0.mk (P2.out.below (below_alloc (Below.refl _ _) (.cells #[.bool false, .slice none 0 0, .int .i64 0] 27))); replace P3 := Aside0.mk (P3.out.below (below_alloc (Below.refl _ _) (.cells #[.bool false, .slice none 0 0, .int .i64 0] 27))); replace P4 := Aside0.mk (P4.out.below (below_alloc (Below.refl _ _) (.cells #[.bool false, .slice none 0 0, .int .i64 0] 27))); ((with_reducible refine gate_store (p := 10) rfl ?_); go_must (refine store_box 27 10 (.tmp 30) rfl rfl rfl (g := w4.heap.size) (e := 27) (.agg #[.bool b4, .slice A4 n4 c4, .int .i64 x4]) ([.bool b4, .slice A4 n4 c4, .int .i64 x4]) rfl rfl rfl info_dyad ?b1 HN.out rfl ?_; (case b1 => intro q hq; simp at hq; rcases hq with rfl | rfl | rfl <;> rfl); intro wb hbx hgx; have HX := Aside0.mk hbx; have HG := Aside0.mk hgx; clear hbx hgx)); replace P1 := Aside0.mk (P1.out.grown_box HN.out (by decide) HG.out); replace P2 := Aside0.mk (P2.out.grown_box HN.out (by decide) HG.out); replace P3 := Aside0.mk (P3.out.grown_box HN.out (by decide) HG.out); replace P4 := Aside0.mk (P4.out.grown_box HN.out (by decide) HG.out); have LB_X4 := BELo.out.2; replace BEL := Aside0.mk (BEL.out.grown HG.out (Nat.le_trans (Nat.le_add_right _ _) LB_X4)); replace X1 := Aside0.mk (blk_grown X1.out HG.out (Nat.ne_of_lt L_X1)); replace X2 := Aside0.mk (blk_grown X2.out HG.out (Nat.ne_of_lt L_X2)); replace X3 := Aside0.mk (blk_grown X3.out HG.out (Nat.ne_of_lt L_X3)); have NE_X1_X4 := Aside0.mk (Nat.ne_of_lt L_X1); have NE_X2_X4 := Aside0.mk (Nat.ne_of_lt L_X2); have NE_X3_X4 := Aside0.mk (Nat.ne_of_lt L_X3); clear L_X1; clear L_X2; clear L_X3; have LL_X4 := Aside0.mk LB_X4; clear LB_X4; have X4 := HX; clear HG HN HX)
  obtain ⟨ws, hws⟩ : ∃ ws : World, ws = wb := ⟨_, rfl⟩
  obtain ⟨TM, hTM⟩ : ∃ T : List (Option Value), T = [some (.bool true), some (.bool true), some (.int .i64 0), some (.bool true), some (.bool true), some (.bool true), some (.agg #[.bool b1, .slice A1 n1 c1, .int .i64 x1]), none, none, some (.bool true), some (.bool true), some (.bool true), some (.bool true), some (.bool true), some (.int .i64 0), some (.bool true), some (.bool true), some (.bool true), some (.agg #[.bool b2, .slice A2 n2 c2, .int .i64 x2]), none, none, some (.bool true), some (.bool true), some (.int .i64 5), some (.bool true), some (.bool true), some (.bool true), some (.bool true), some (.bool true), some (.bool true), some (.int .i64 0), some (.bool true), some (.bool true), some (.bool true), some (.agg #[.bool b4, .slice A4 n4 c4, .int .i64 x4]), none, none, none, some (.bool true), some (.bool true), none, some (.bool true), some (.bool true)] := ⟨_, rfl⟩
  obtain ⟨GM, hGM⟩ : ∃ G : (Nat → Prop) → (Nat → Value) → World → Prop, G = fun L v W => BelN w 0 W ∧ W.heap[w1.heap.size]? = some (.cells #[.bool b1, .slice A1 n1 c1, .int .i64 x1] 27 (0, 0)) ∧ W.heap[w2.heap.size]? = some (.cells #[.bool b2, .slice A2 n2 c2, .int .i64 x2] 27 (0, 0)) ∧ W.heap[w4.heap.size]? = some (.cells #[.bool b4, .slice A4 n4 c4, .int .i64 x4] 27 (0, 0)) ∧ PDy W 0 (.agg #[.bool b1, .slice A1 n1 c1, .int .i64 x1]) 3 0 ∧ PDy W 0 (.agg #[.bool b2, .slice A2 n2 c2, .int .i64 x2]) 1 0 ∧ PDy W 0 (.agg #[.bool b4, .slice A4 n4 c4, .int .i64 x4]) 3 (-2) ∧ (∀ j c, L j → TM[j]? = some (some c) → v j = c) ∧ (L 7 → CDy W (v 7) 3 0) ∧ (L 8 → (v 8) = .bool true) ∧ (L 19 → CDy W (v 19) 1 0) ∧ (L 20 → (v 20) = .bool true) ∧ (L 35 → ∃ g, (v 35) = .slice (some ⟨g, 0, none⟩) 1 1 ∧ W.heap[g]? = some (.cells #[.int .u64 3] 23 (0, 0)) ∧ kU.C W (some ⟨g, 0, none⟩) 1 [3]) ∧ (L 36 → CDy W (v 36) 3 (-2)) ∧ (L 37 → (v 37) = .bool true) ∧ (L 40 → (v 40) = .bool true) := ⟨_, rfl⟩
  refine wp_region_slotsV [33, 34, 35, 36, 37, 38, 39, 40, 41, 42, 43, 44, 45, 46, 47, 48, 49, 50, 51, 52, 53, 54, 55, 56, 57, 58, 59, 60, 61, 62, 63, 64, 65, 66, 67, 68, 69, 70, 71, 72, 73, 74, 0] (by kernel_rfl) (by kernel_rfl) (G := GM) ?h0M ?hstepM ?hendM
  case h0M =>
    intro v; rw [hGM]
    exact ⟨BEL.out.next (below_drew (Below.refl _ _)), blk_drew X1.out, blk_drew X2.out, blk_drew X4.out, (P1.out.below (below_drew (Below.refl _ _))).lower (Nat.zero_le _), (P2.out.below (below_drew (Below.refl _ _))).lower (Nat.zero_le _), (P4.out.below (below_drew (Below.refl _ _))).lower (Nat.zero_le _), fun _ _ h => h.elim, fun h => h.elim, fun h => h.elim, fun h => h.elim, fun h => h.elim, fun h => h.elim, fun h => h.elim, fun h => h.elim, fun h => h.elim⟩
  case hstepM =>
    intro k o ho v W L hGv hnk haft hcl K hK
    rw [hGM] at hGv
    obtain ⟨hB, hb0, hb1, hb2, hk0, hk1, hk2, fT, f7, f8, f19, f20, f35, f36, f37, f40⟩ := hGv
    rcases k with _ | _ | _ | _ | _ | _ | _ | _ | _ | _ | _ | _ | _ | _ | _ | _ | _ | _ | _ | _ | _ | _ | _ | _ | _ | _ | _ | _ | _ | _ | _ | _ | _ | _ | _ | _ | _ | _ | _ | _ | _ | _ | _ | k
    all_goals first
      | (cases ho; done)
      | (obtain rfl := (Option.some.inj ho).symm
         clear ho
         simp only [setAll, List.setIfInBounds_toArray, List.set_cons_zero, List.set_cons_succ, List.set_nil, List.getElem_toArray, List.getElem_cons_zero, List.getElem_cons_succ, Nat.reduceAdd] at haft hK ⊢)
    case zero =>
      rw [if_pos (by rfl)]
      have hb := Below.refl W.heap.size W
      have key := hK.out (.bool true) W (by rw [hGM]; exact ⟨hB.next hb, blk_below hb0 hb, blk_below hb1 hb, blk_below hb2 hb, hk0.below hb, hk1.below hb, hk2.below hb, tabs_step fT (fun c h => by rw [hTM] at h; exact Option.some.inj (Option.some.inj h)), (fun h0 => by rw [upd_ne v _ (by decide)]; have h := f7 (h0.resolve_right (by decide)); exact (h.below hb)), (kv f8 (by decide)), (fun h0 => by rw [upd_ne v _ (by decide)]; have h := f19 (h0.resolve_right (by decide)); exact (h.below hb)), (kv f20 (by decide)), (fun h0 => by rw [upd_ne v _ (by decide)]; have h := f35 (h0.resolve_right (by decide)); exact (let ⟨g, a1, a2, a3⟩ := h; ⟨g, a1, blk_below a2 hb, Kd.C_below a3 hb⟩)), (fun h0 => by rw [upd_ne v _ (by decide)]; have h := f36 (h0.resolve_right (by decide)); exact (h.below hb)), (kv f37 (by decide)), (kv f40 (by decide))⟩)
      clear hb0 hb1 hb2 hk0 hk1 hk2 fT f7 f8 f19 f20 f35 f36 f37 f40 hK hb
      go_simp
      simpa [upd] using key
    case succ.zero =>
      have d0 := fT 0 _ (haft { on := 0, ground := .data } (by simp) rfl) (by rw [hTM]; rfl)
      rw [if_pos (by rfl)]
      have hb := Below.refl W.heap.size W
      have key := hK.out (.bool true) W (by rw [hGM]; exact ⟨hB.next hb, blk_below hb0 hb, blk_below hb1 hb, blk_below hb2 hb, hk0.below hb, hk1.below hb, hk2.below hb, tabs_step fT (fun c h => by rw [hTM] at h; exact Option.some.inj (Option.some.inj h)), (fun h0 => by rw [upd_ne v _ (by decide)]; have h := f7 (h0.resolve_right (by decide)); exact (h.below hb)), (kv f8 (by decide)), (fun h0 => by rw [upd_ne v _ (by decide)]; have h := f19 (h0.resolve_right (by decide)); exact (h.below hb)), (kv f20 (by decide)), (fun h0 => by rw [upd_ne v _ (by decide)]; have h := f35 (h0.resolve_right (by decide)); exact (let ⟨g, a1, a2, a3⟩ := h; ⟨g, a1, blk_below a2 hb, Kd.C_below a3 hb⟩)), (fun h0 => by rw [upd_ne v _ (by decide)]; have h := f36 (h0.resolve_right (by decide)); exact (h.below hb)), (kv f37 (by decide)), (kv f40 (by decide))⟩)
      clear hb0 hb1 hb2 hk0 hk1 hk2 fT f7 f8 f19 f20 f35 f36 f37 f40 hK hb
      go_simp
      simpa [upd, d0] using key
    case succ.succ.zero =>
      have dg := fT 1 _ (haft { on := 1, ground := .guard } (by simp) rfl) (by rw [hTM]; rfl)
      rw [if_pos (by simp [Region.wanted, yielded, dg])]
      have hb := Below.refl W.heap.size W
      have key := hK.out (.int .i64 0) W (by rw [hGM]; exact ⟨hB.next hb, blk_below hb0 hb, blk_below hb1 hb, blk_below hb2 hb, hk0.below hb, hk1.below hb, hk2.below hb, tabs_step fT (fun c h => by rw [hTM] at h; exact Option.some.inj (Option.some.inj h)), (fun h0 => by rw [upd_ne v _ (by decide)]; have h := f7 (h0.resolve_right (by decide)); exact (h.below hb)), (kv f8 (by decide)), (fun h0 => by rw [upd_ne v _ (by decide)]; have h := f19 (h0.resolve_right (by decide)); exact (h.below hb)), (kv f20 (by decide)), (fun h0 => by rw [upd_ne v _ (by decide)]; have h := f35 (h0.resolve_right (by decide)); exact (let ⟨g, a1, a2, a3⟩ := h; ⟨g, a1, blk_below a2 hb, Kd.C_below a3 hb⟩)), (fun h0 => by rw [upd_ne v _ (by decide)]; have h := f36 (h0.resolve_right (by decide)); exact (h.below hb)), (kv f37 (by decide)), (kv f40 (by decide))⟩)
      clear hb0 hb1 hb2 hk0 hk1 hk2 fT f7 f8 f19 f20 f35 f36 f37 f40 hK hb
      go_simp
      simpa [upd, dg] using key
    case succ.succ.succ.zero =>
      have d2 := fT 2 _ (haft { on := 2, ground := .data } (by simp) rfl) (by rw [hTM]; rfl)
      have dg := fT 1 _ (haft { on := 1, ground := .guard } (by simp) rfl) (by rw [hTM]; rfl)
      rw [if_pos (by simp [Region.wanted, yielded, dg])]
      have hb := Below.refl W.heap.size W
      have key := hK.out (.bool true) W (by rw [hGM]; exact ⟨hB.next hb, blk_below hb0 hb, blk_below hb1 hb, blk_below hb2 hb, hk0.below hb, hk1.below hb, hk2.below hb, tabs_step fT (fun c h => by rw [hTM] at h; exact Option.some.inj (Option.some.inj h)), (fun h0 => by rw [upd_ne v _ (by decide)]; have h := f7 (h0.resolve_right (by decide)); exact (h.below hb)), (kv f8 (by decide)), (fun h0 => by rw [upd_ne v _ (by decide)]; have h := f19 (h0.resolve_right (by decide)); exact (h.below hb)), (kv f20 (by decide)), (fun h0 => by rw [upd_ne v _ (by decide)]; have h := f35 (h0.resolve_right (by decide)); exact (let ⟨g, a1, a2, a3⟩ := h; ⟨g, a1, blk_below a2 hb, Kd.C_below a3 hb⟩)), (fun h0 => by rw [upd_ne v _ (by decide)]; have h := f36 (h0.resolve_right (by decide)); exact (h.below hb)), (kv f37 (by decide)), (kv f40 (by decide))⟩)
      clear hb0 hb1 hb2 hk0 hk1 hk2 fT f7 f8 f19 f20 f35 f36 f37 f40 hK hb
      go_simp
      simpa [upd, d2, dg] using key
    case succ.succ.succ.succ.zero =>
      have d1 := fT 1 _ (haft { on := 1, ground := .data } (by simp) rfl) (by rw [hTM]; rfl)
      have d3 := fT 3 _ (haft { on := 3, ground := .data } (by simp) rfl) (by rw [hTM]; rfl)
      rw [if_pos (by rfl)]
      have hb := Below.refl W.heap.size W
      have key := hK.out (.bool true) W (by rw [hGM]; exact ⟨hB.next hb, blk_below hb0 hb, blk_below hb1 hb, blk_below hb2 hb, hk0.below hb, hk1.below hb, hk2.below hb, tabs_step fT (fun c h => by rw [hTM] at h; exact Option.some.inj (Option.some.inj h)), (fun h0 => by rw [upd_ne v _ (by decide)]; have h := f7 (h0.resolve_right (by decide)); exact (h.below hb)), (kv f8 (by decide)), (fun h0 => by rw [upd_ne v _ (by decide)]; have h := f19 (h0.resolve_right (by decide)); exact (h.below hb)), (kv f20 (by decide)), (fun h0 => by rw [upd_ne v _ (by decide)]; have h := f35 (h0.resolve_right (by decide)); exact (let ⟨g, a1, a2, a3⟩ := h; ⟨g, a1, blk_below a2 hb, Kd.C_below a3 hb⟩)), (fun h0 => by rw [upd_ne v _ (by decide)]; have h := f36 (h0.resolve_right (by decide)); exact (h.below hb)), (kv f37 (by decide)), (kv f40 (by decide))⟩)
      clear hb0 hb1 hb2 hk0 hk1 hk2 fT f7 f8 f19 f20 f35 f36 f37 f40 hK hb
      go_simp
      simpa [upd, d1, d3] using key
    case succ.succ.succ.succ.succ.zero =>
      have d4 := fT 4 _ (haft { on := 4, ground := .data } (by simp) rfl) (by rw [hTM]; rfl)
      rw [if_pos (by rfl)]
      have hb := Below.refl W.heap.size W
      have key := hK.out (.bool true) W (by rw [hGM]; exact ⟨hB.next hb, blk_below hb0 hb, blk_below hb1 hb, blk_below hb2 hb, hk0.below hb, hk1.below hb, hk2.below hb, tabs_step fT (fun c h => by rw [hTM] at h; exact Option.some.inj (Option.some.inj h)), (fun h0 => by rw [upd_ne v _ (by decide)]; have h := f7 (h0.resolve_right (by decide)); exact (h.below hb)), (kv f8 (by decide)), (fun h0 => by rw [upd_ne v _ (by decide)]; have h := f19 (h0.resolve_right (by decide)); exact (h.below hb)), (kv f20 (by decide)), (fun h0 => by rw [upd_ne v _ (by decide)]; have h := f35 (h0.resolve_right (by decide)); exact (let ⟨g, a1, a2, a3⟩ := h; ⟨g, a1, blk_below a2 hb, Kd.C_below a3 hb⟩)), (fun h0 => by rw [upd_ne v _ (by decide)]; have h := f36 (h0.resolve_right (by decide)); exact (h.below hb)), (kv f37 (by decide)), (kv f40 (by decide))⟩)
      clear hb0 hb1 hb2 hk0 hk1 hk2 fT f7 f8 f19 f20 f35 f36 f37 f40 hK hb
      go_simp
      simpa [upd, d4] using key
    case succ.succ.succ.succ.succ.succ.zero =>
      have dg := fT 5 _ (haft { on := 5, ground := .guard } (by simp) rfl) (by rw [hTM]; rfl)
      rw [if_pos (by simp [Region.wanted, yielded, dg])]
      have cc0 := (box_cell (v := .bool b1) hb0 0 rfl).1
      have cc1 := (box_cell (v := .slice A1 n1 c1) hb0 1 rfl).1
      have cc2 := (box_cell (v := .int .i64 x1) hb0 2 rfl).1
      have hb := Below.refl W.heap.size W
      have key := hK.out (.agg #[.bool b1, .slice A1 n1 c1, .int .i64 x1]) W (by rw [hGM]; exact ⟨hB.next hb, blk_below hb0 hb, blk_below hb1 hb, blk_below hb2 hb, hk0.below hb, hk1.below hb, hk2.below hb, tabs_step fT (fun c h => by rw [hTM] at h; exact Option.some.inj (Option.some.inj h)), (fun h0 => by rw [upd_ne v _ (by decide)]; have h := f7 (h0.resolve_right (by decide)); exact (h.below hb)), (kv f8 (by decide)), (fun h0 => by rw [upd_ne v _ (by decide)]; have h := f19 (h0.resolve_right (by decide)); exact (h.below hb)), (kv f20 (by decide)), (fun h0 => by rw [upd_ne v _ (by decide)]; have h := f35 (h0.resolve_right (by decide)); exact (let ⟨g, a1, a2, a3⟩ := h; ⟨g, a1, blk_below a2 hb, Kd.C_below a3 hb⟩)), (fun h0 => by rw [upd_ne v _ (by decide)]; have h := f36 (h0.resolve_right (by decide)); exact (h.below hb)), (kv f37 (by decide)), (kv f40 (by decide))⟩)
      clear hb0 hb1 hb2 hk0 hk1 hk2 fT f7 f8 f19 f20 f35 f36 f37 f40 hK hb
      go_simp
      simpa [upd, dg] using key
    case succ.succ.succ.succ.succ.succ.succ.zero =>
      have dg := fT 5 _ (haft { on := 5, ground := .guard } (by simp) rfl) (by rw [hTM]; rfl)
      rw [if_pos (by simp [Region.wanted, yielded, dg])]
      have HALL := Aside0.mk (And.intro hK (And.intro hB (And.intro hb0 ( And.intro hb1 ( And.intro hb2 ( And.intro hk0 ( And.intro hk1 ( And.intro hk2 ( And.intro fT ( And.intro f7 ( And.intro f8 ( And.intro f19 ( And.intro f20 ( And.intro f35 ( And.intro f36 ( And.intro f37 ( And.intro f40 (True.intro))))))))))))))))))
      clear hK hb0 hb1 hb2 hk0 hk1 hk2 fT f7 f8 f19 f20 f35 f36 f37 f40
      go_simp
      go_at_call 14
      refine (dint_any 3 _ (by decide) (by decide)).mono ?_
      rintro en w4 ⟨v1, rfl, hr, hb⟩
      obtain ⟨hK, hB, hb0, hb1, hb2, hk0, hk1, hk2, fT, f7, f8, f19, f20, f35, f36, f37, f40, _⟩ := HALL.out
      have key := hK.out (v1) w4 (by rw [hGM]; exact ⟨hB.next hb, blk_below hb0 hb, blk_below hb1 hb, blk_below hb2 hb, hk0.below hb, hk1.below hb, hk2.below hb, tabs_step fT (fun c h => by rw [hTM] at h; cases h), fun _ => by rw [upd_eq]; exact hr.c, (kv f8 (by decide)), (fun h0 => by rw [upd_ne v _ (by decide)]; have h := f19 (h0.resolve_right (by decide)); exact (h.below hb)), (kv f20 (by decide)), (fun h0 => by rw [upd_ne v _ (by decide)]; have h := f35 (h0.resolve_right (by decide)); exact (let ⟨g, a1, a2, a3⟩ := h; ⟨g, a1, blk_below a2 hb, Kd.C_below a3 hb⟩)), (fun h0 => by rw [upd_ne v _ (by decide)]; have h := f36 (h0.resolve_right (by decide)); exact (h.below hb)), (kv f37 (by decide)), (kv f40 (by decide))⟩)
      clear hb0 hb1 hb2 hk0 hk1 hk2 fT f7 f8 f19 f20 f35 f36 f37 f40 hK HALL
      simpa [upd, dg] using key
    case succ.succ.succ.succ.succ.succ.succ.succ.zero =>
      have d6 := fT 6 _ (haft { on := 6, ground := .data } (by simp) rfl) (by rw [hTM]; rfl)
      have d7 := f7 (haft { on := 7, ground := .data } (by simp) rfl)
      have dg := fT 5 _ (haft { on := 5, ground := .guard } (by simp) rfl) (by rw [hTM]; rfl)
      rw [if_pos (by simp [Region.wanted, yielded, dg])]
      have K1 := hk0
      have HALL := Aside0.mk (And.intro hK (And.intro hB (And.intro hb0 ( And.intro hb1 ( And.intro hb2 ( And.intro hk0 ( And.intro hk1 ( And.intro hk2 ( And.intro fT ( And.intro f7 ( And.intro f8 ( And.intro f19 ( And.intro f20 ( And.intro f35 ( And.intro f36 ( And.intro f37 ( And.intro f40 (True.intro))))))))))))))))))
      clear hK hb0 hb1 hb2 hk0 hk1 hk2 fT f7 f8 f19 f20 f35 f36 f37 f40
      go_simp
      go_at_call 10
      refine (same_self K1.c d7 (Ok.of 2 (by decide) (by decide) (by decide) (by decide))).mono ?_
      rintro en w4 ⟨rfl, hb⟩
      obtain ⟨hK, hB, hb0, hb1, hb2, hk0, hk1, hk2, fT, f7, f8, f19, f20, f35, f36, f37, f40, _⟩ := HALL.out
      have key := hK.out (.bool true) w4 (by rw [hGM]; exact ⟨hB.next hb, blk_below hb0 hb, blk_below hb1 hb, blk_below hb2 hb, hk0.below hb, hk1.below hb, hk2.below hb, tabs_step fT (fun c h => by rw [hTM] at h; cases h), (fun h0 => by rw [upd_ne v _ (by decide)]; have h := f7 (h0.resolve_right (by decide)); exact (h.below hb)), fun _ => by rw [upd_eq], (fun h0 => by rw [upd_ne v _ (by decide)]; have h := f19 (h0.resolve_right (by decide)); exact (h.below hb)), (kv f20 (by decide)), (fun h0 => by rw [upd_ne v _ (by decide)]; have h := f35 (h0.resolve_right (by decide)); exact (let ⟨g, a1, a2, a3⟩ := h; ⟨g, a1, blk_below a2 hb, Kd.C_below a3 hb⟩)), (fun h0 => by rw [upd_ne v _ (by decide)]; have h := f36 (h0.resolve_right (by decide)); exact (h.below hb)), (kv f37 (by decide)), (kv f40 (by decide))⟩)
      clear hb0 hb1 hb2 hk0 hk1 hk2 fT f7 f8 f19 f20 f35 f36 f37 f40 hK HALL
      simpa [upd, d6, dg] using key
    case succ.succ.succ.succ.succ.succ.succ.succ.succ.zero =>
      have d5 := fT 5 _ (haft { on := 5, ground := .data } (by simp) rfl) (by rw [hTM]; rfl)
      have d8 := f8 (haft { on := 8, ground := .data } (by simp) rfl)
      rw [if_pos (by rfl)]
      have hb := Below.refl W.heap.size W
      have key := hK.out (.bool true) W (by rw [hGM]; exact ⟨hB.next hb, blk_below hb0 hb, blk_below hb1 hb, blk_below hb2 hb, hk0.below hb, hk1.below hb, hk2.below hb, tabs_step fT (fun c h => by rw [hTM] at h; exact Option.some.inj (Option.some.inj h)), (fun h0 => by rw [upd_ne v _ (by decide)]; have h := f7 (h0.resolve_right (by decide)); exact (h.below hb)), (kv f8 (by decide)), (fun h0 => by rw [upd_ne v _ (by decide)]; have h := f19 (h0.resolve_right (by decide)); exact (h.below hb)), (kv f20 (by decide)), (fun h0 => by rw [upd_ne v _ (by decide)]; have h := f35 (h0.resolve_right (by decide)); exact (let ⟨g, a1, a2, a3⟩ := h; ⟨g, a1, blk_below a2 hb, Kd.C_below a3 hb⟩)), (fun h0 => by rw [upd_ne v _ (by decide)]; have h := f36 (h0.resolve_right (by decide)); exact (h.below hb)), (kv f37 (by decide)), (kv f40 (by decide))⟩)
      clear hb0 hb1 hb2 hk0 hk1 hk2 fT f7 f8 f19 f20 f35 f36 f37 f40 hK hb
      go_simp
      simpa [upd, d5, d8] using key
    case succ.succ.succ.succ.succ.succ.succ.succ.succ.succ.zero =>
      have d9 := fT 9 _ (haft { on := 9, ground := .data } (by simp) rfl) (by rw [hTM]; rfl)
      rw [if_pos (by rfl)]
      have hb := Below.refl W.heap.size W
      have key := hK.out (.bool true) W (by rw [hGM]; exact ⟨hB.next hb, blk_below hb0 hb, blk_below hb1 hb, blk_below hb2 hb, hk0.below hb, hk1.below hb, hk2.below hb, tabs_step fT (fun c h => by rw [hTM] at h; exact Option.some.inj (Option.some.inj h)), (fun h0 => by rw [upd_ne v _ (by decide)]; have h := f7 (h0.resolve_right (by decide)); exact (h.below hb)), (kv f8 (by decide)), (fun h0 => by rw [upd_ne v _ (by decide)]; have h := f19 (h0.resolve_right (by decide)); exact (h.below hb)), (kv f20 (by decide)), (fun h0 => by rw [upd_ne v _ (by decide)]; have h := f35 (h0.resolve_right (by decide)); exact (let ⟨g, a1, a2, a3⟩ := h; ⟨g, a1, blk_below a2 hb, Kd.C_below a3 hb⟩)), (fun h0 => by rw [upd_ne v _ (by decide)]; have h := f36 (h0.resolve_right (by decide)); exact (h.below hb)), (kv f37 (by decide)), (kv f40 (by decide))⟩)
      clear hb0 hb1 hb2 hk0 hk1 hk2 fT f7 f8 f19 f20 f35 f36 f37 f40 hK hb
      go_simp
      simpa [upd, d9] using key
    case succ.succ.succ.succ.succ.succ.succ.succ.succ.succ.succ.zero =>
      have dg := fT 10 _ (haft { on := 10, ground := .guard } (by simp) rfl) (by rw [hTM]; rfl)
      rw [if_pos (by simp [Region.wanted, yielded, dg])]
      have hb := Below.refl W.heap.size W
      have key := hK.out (.bool true) W (by rw [hGM]; exact ⟨hB.next hb, blk_below hb0 hb, blk_below hb1 hb, blk_below hb2 hb, hk0.below hb, hk1.below hb, hk2.below hb, tabs_step fT (fun c h => by rw [hTM] at h; exact Option.some.inj (Option.some.inj h)), (fun h0 => by rw [upd_ne v _ (by decide)]; have h := f7 (h0.resolve_right (by decide)); exact (h.below hb)), (kv f8 (by decide)), (fun h0 => by rw [upd_ne v _ (by decide)]; have h := f19 (h0.resolve_right (by decide)); exact (h.below hb)), (kv f20 (by decide)), (fun h0 => by rw [upd_ne v _ (by decide)]; have h := f35 (h0.resolve_right (by decide)); exact (let ⟨g, a1, a2, a3⟩ := h; ⟨g, a1, blk_below a2 hb, Kd.C_below a3 hb⟩)), (fun h0 => by rw [upd_ne v _ (by decide)]; have h := f36 (h0.resolve_right (by decide)); exact (h.below hb)), (kv f37 (by decide)), (kv f40 (by decide))⟩)
      clear hb0 hb1 hb2 hk0 hk1 hk2 fT f7 f8 f19 f20 f35 f36 f37 f40 hK hb
      go_simp
      simpa [upd, dg] using key
    case succ.succ.succ.succ.succ.succ.succ.succ.succ.succ.succ.succ.zero =>
      have d10 := fT 10 _ (haft { on := 10, ground := .data } (by simp) rfl) (by rw [hTM]; rfl)
      have d11 := fT 11 _ (haft { on := 11, ground := .data } (by simp) rfl) (by rw [hTM]; rfl)
      rw [if_pos (by rfl)]
      have hb := Below.refl W.heap.size W
      have key := hK.out (.bool true) W (by rw [hGM]; exact ⟨hB.next hb, blk_below hb0 hb, blk_below hb1 hb, blk_below hb2 hb, hk0.below hb, hk1.below hb, hk2.below hb, tabs_step fT (fun c h => by rw [hTM] at h; exact Option.some.inj (Option.some.inj h)), (fun h0 => by rw [upd_ne v _ (by decide)]; have h := f7 (h0.resolve_right (by decide)); exact (h.below hb)), (kv f8 (by decide)), (fun h0 => by rw [upd_ne v _ (by decide)]; have h := f19 (h0.resolve_right (by decide)); exact (h.below hb)), (kv f20 (by decide)), (fun h0 => by rw [upd_ne v _ (by decide)]; have h := f35 (h0.resolve_right (by decide)); exact (let ⟨g, a1, a2, a3⟩ := h; ⟨g, a1, blk_below a2 hb, Kd.C_below a3 hb⟩)), (fun h0 => by rw [upd_ne v _ (by decide)]; have h := f36 (h0.resolve_right (by decide)); exact (h.below hb)), (kv f37 (by decide)), (kv f40 (by decide))⟩)
      clear hb0 hb1 hb2 hk0 hk1 hk2 fT f7 f8 f19 f20 f35 f36 f37 f40 hK hb
      go_simp
      simpa [upd, d10, d11] using key
    case succ.succ.succ.succ.succ.succ.succ.succ.succ.succ.succ.succ.succ.zero =>
      have d12 := fT 12 _ (haft { on := 12, ground := .data } (by simp) rfl) (by rw [hTM]; rfl)
      rw [if_pos (by rfl)]
      have hb := Below.refl W.heap.size W
      have key := hK.out (.bool true) W (by rw [hGM]; exact ⟨hB.next hb, blk_below hb0 hb, blk_below hb1 hb, blk_below hb2 hb, hk0.below hb, hk1.below hb, hk2.below hb, tabs_step fT (fun c h => by rw [hTM] at h; exact Option.some.inj (Option.some.inj h)), (fun h0 => by rw [upd_ne v _ (by decide)]; have h := f7 (h0.resolve_right (by decide)); exact (h.below hb)), (kv f8 (by decide)), (fun h0 => by rw [upd_ne v _ (by decide)]; have h := f19 (h0.resolve_right (by decide)); exact (h.below hb)), (kv f20 (by decide)), (fun h0 => by rw [upd_ne v _ (by decide)]; have h := f35 (h0.resolve_right (by decide)); exact (let ⟨g, a1, a2, a3⟩ := h; ⟨g, a1, blk_below a2 hb, Kd.C_below a3 hb⟩)), (fun h0 => by rw [upd_ne v _ (by decide)]; have h := f36 (h0.resolve_right (by decide)); exact (h.below hb)), (kv f37 (by decide)), (kv f40 (by decide))⟩)
      clear hb0 hb1 hb2 hk0 hk1 hk2 fT f7 f8 f19 f20 f35 f36 f37 f40 hK hb
      go_simp
      simpa [upd, d12] using key
    case succ.succ.succ.succ.succ.succ.succ.succ.succ.succ.succ.succ.succ.succ.zero =>
      have dg := fT 13 _ (haft { on := 13, ground := .guard } (by simp) rfl) (by rw [hTM]; rfl)
      rw [if_pos (by simp [Region.wanted, yielded, dg])]
      have hb := Below.refl W.heap.size W
      have key := hK.out (.int .i64 0) W (by rw [hGM]; exact ⟨hB.next hb, blk_below hb0 hb, blk_below hb1 hb, blk_below hb2 hb, hk0.below hb, hk1.below hb, hk2.below hb, tabs_step fT (fun c h => by rw [hTM] at h; exact Option.some.inj (Option.some.inj h)), (fun h0 => by rw [upd_ne v _ (by decide)]; have h := f7 (h0.resolve_right (by decide)); exact (h.below hb)), (kv f8 (by decide)), (fun h0 => by rw [upd_ne v _ (by decide)]; have h := f19 (h0.resolve_right (by decide)); exact (h.below hb)), (kv f20 (by decide)), (fun h0 => by rw [upd_ne v _ (by decide)]; have h := f35 (h0.resolve_right (by decide)); exact (let ⟨g, a1, a2, a3⟩ := h; ⟨g, a1, blk_below a2 hb, Kd.C_below a3 hb⟩)), (fun h0 => by rw [upd_ne v _ (by decide)]; have h := f36 (h0.resolve_right (by decide)); exact (h.below hb)), (kv f37 (by decide)), (kv f40 (by decide))⟩)
      clear hb0 hb1 hb2 hk0 hk1 hk2 fT f7 f8 f19 f20 f35 f36 f37 f40 hK hb
      go_simp
      simpa [upd, dg] using key
    case succ.succ.succ.succ.succ.succ.succ.succ.succ.succ.succ.succ.succ.succ.succ.zero =>
      have d14 := fT 14 _ (haft { on := 14, ground := .data } (by simp) rfl) (by rw [hTM]; rfl)
      have dg := fT 13 _ (haft { on := 13, ground := .guard } (by simp) rfl) (by rw [hTM]; rfl)
      rw [if_pos (by simp [Region.wanted, yielded, dg])]
      have hb := Below.refl W.heap.size W
      have key := hK.out (.bool true) W (by rw [hGM]; exact ⟨hB.next hb, blk_below hb0 hb, blk_below hb1 hb, blk_below hb2 hb, hk0.below hb, hk1.below hb, hk2.below hb, tabs_step fT (fun c h => by rw [hTM] at h; exact Option.some.inj (Option.some.inj h)), (fun h0 => by rw [upd_ne v _ (by decide)]; have h := f7 (h0.resolve_right (by decide)); exact (h.below hb)), (kv f8 (by decide)), (fun h0 => by rw [upd_ne v _ (by decide)]; have h := f19 (h0.resolve_right (by decide)); exact (h.below hb)), (kv f20 (by decide)), (fun h0 => by rw [upd_ne v _ (by decide)]; have h := f35 (h0.resolve_right (by decide)); exact (let ⟨g, a1, a2, a3⟩ := h; ⟨g, a1, blk_below a2 hb, Kd.C_below a3 hb⟩)), (fun h0 => by rw [upd_ne v _ (by decide)]; have h := f36 (h0.resolve_right (by decide)); exact (h.below hb)), (kv f37 (by decide)), (kv f40 (by decide))⟩)
      clear hb0 hb1 hb2 hk0 hk1 hk2 fT f7 f8 f19 f20 f35 f36 f37 f40 hK hb
      go_simp
      simpa [upd, d14, dg] using key
    case succ.succ.succ.succ.succ.succ.succ.succ.succ.succ.succ.succ.succ.succ.succ.succ.zero =>
      have d13 := fT 13 _ (haft { on := 13, ground := .data } (by simp) rfl) (by rw [hTM]; rfl)
      have d15 := fT 15 _ (haft { on := 15, ground := .data } (by simp) rfl) (by rw [hTM]; rfl)
      rw [if_pos (by rfl)]
      have hb := Below.refl W.heap.size W
      have key := hK.out (.bool true) W (by rw [hGM]; exact ⟨hB.next hb, blk_below hb0 hb, blk_below hb1 hb, blk_below hb2 hb, hk0.below hb, hk1.below hb, hk2.below hb, tabs_step fT (fun c h => by rw [hTM] at h; exact Option.some.inj (Option.some.inj h)), (fun h0 => by rw [upd_ne v _ (by decide)]; have h := f7 (h0.resolve_right (by decide)); exact (h.below hb)), (kv f8 (by decide)), (fun h0 => by rw [upd_ne v _ (by decide)]; have h := f19 (h0.resolve_right (by decide)); exact (h.below hb)), (kv f20 (by decide)), (fun h0 => by rw [upd_ne v _ (by decide)]; have h := f35 (h0.resolve_right (by decide)); exact (let ⟨g, a1, a2, a3⟩ := h; ⟨g, a1, blk_below a2 hb, Kd.C_below a3 hb⟩)), (fun h0 => by rw [upd_ne v _ (by decide)]; have h := f36 (h0.resolve_right (by decide)); exact (h.below hb)), (kv f37 (by decide)), (kv f40 (by decide))⟩)
      clear hb0 hb1 hb2 hk0 hk1 hk2 fT f7 f8 f19 f20 f35 f36 f37 f40 hK hb
      go_simp
      simpa [upd, d13, d15] using key
    case succ.succ.succ.succ.succ.succ.succ.succ.succ.succ.succ.succ.succ.succ.succ.succ.succ.zero =>
      have d16 := fT 16 _ (haft { on := 16, ground := .data } (by simp) rfl) (by rw [hTM]; rfl)
      rw [if_pos (by rfl)]
      have hb := Below.refl W.heap.size W
      have key := hK.out (.bool true) W (by rw [hGM]; exact ⟨hB.next hb, blk_below hb0 hb, blk_below hb1 hb, blk_below hb2 hb, hk0.below hb, hk1.below hb, hk2.below hb, tabs_step fT (fun c h => by rw [hTM] at h; exact Option.some.inj (Option.some.inj h)), (fun h0 => by rw [upd_ne v _ (by decide)]; have h := f7 (h0.resolve_right (by decide)); exact (h.below hb)), (kv f8 (by decide)), (fun h0 => by rw [upd_ne v _ (by decide)]; have h := f19 (h0.resolve_right (by decide)); exact (h.below hb)), (kv f20 (by decide)), (fun h0 => by rw [upd_ne v _ (by decide)]; have h := f35 (h0.resolve_right (by decide)); exact (let ⟨g, a1, a2, a3⟩ := h; ⟨g, a1, blk_below a2 hb, Kd.C_below a3 hb⟩)), (fun h0 => by rw [upd_ne v _ (by decide)]; have h := f36 (h0.resolve_right (by decide)); exact (h.below hb)), (kv f37 (by decide)), (kv f40 (by decide))⟩)
      clear hb0 hb1 hb2 hk0 hk1 hk2 fT f7 f8 f19 f20 f35 f36 f37 f40 hK hb
      go_simp
      simpa [upd, d16] using key
    case succ.succ.succ.succ.succ.succ.succ.succ.succ.succ.succ.succ.succ.succ.succ.succ.succ.succ.zero =>
      have dg := fT 17 _ (haft { on := 17, ground := .guard } (by simp) rfl) (by rw [hTM]; rfl)
      rw [if_pos (by simp [Region.wanted, yielded, dg])]
      have cc0 := (box_cell (v := .bool b2) hb1 0 rfl).1
      have cc1 := (box_cell (v := .slice A2 n2 c2) hb1 1 rfl).1
      have cc2 := (box_cell (v := .int .i64 x2) hb1 2 rfl).1
      have hb := Below.refl W.heap.size W
      have key := hK.out (.agg #[.bool b2, .slice A2 n2 c2, .int .i64 x2]) W (by rw [hGM]; exact ⟨hB.next hb, blk_below hb0 hb, blk_below hb1 hb, blk_below hb2 hb, hk0.below hb, hk1.below hb, hk2.below hb, tabs_step fT (fun c h => by rw [hTM] at h; exact Option.some.inj (Option.some.inj h)), (fun h0 => by rw [upd_ne v _ (by decide)]; have h := f7 (h0.resolve_right (by decide)); exact (h.below hb)), (kv f8 (by decide)), (fun h0 => by rw [upd_ne v _ (by decide)]; have h := f19 (h0.resolve_right (by decide)); exact (h.below hb)), (kv f20 (by decide)), (fun h0 => by rw [upd_ne v _ (by decide)]; have h := f35 (h0.resolve_right (by decide)); exact (let ⟨g, a1, a2, a3⟩ := h; ⟨g, a1, blk_below a2 hb, Kd.C_below a3 hb⟩)), (fun h0 => by rw [upd_ne v _ (by decide)]; have h := f36 (h0.resolve_right (by decide)); exact (h.below hb)), (kv f37 (by decide)), (kv f40 (by decide))⟩)
      clear hb0 hb1 hb2 hk0 hk1 hk2 fT f7 f8 f19 f20 f35 f36 f37 f40 hK hb
      go_simp
      simpa [upd, dg] using key
    case succ.succ.succ.succ.succ.succ.succ.succ.succ.succ.succ.succ.succ.succ.succ.succ.succ.succ.succ.zero =>
      have dg := fT 17 _ (haft { on := 17, ground := .guard } (by simp) rfl) (by rw [hTM]; rfl)
      rw [if_pos (by simp [Region.wanted, yielded, dg])]
      have HALL := Aside0.mk (And.intro hK (And.intro hB (And.intro hb0 ( And.intro hb1 ( And.intro hb2 ( And.intro hk0 ( And.intro hk1 ( And.intro hk2 ( And.intro fT ( And.intro f7 ( And.intro f8 ( And.intro f19 ( And.intro f20 ( And.intro f35 ( And.intro f36 ( And.intro f37 ( And.intro f40 (True.intro))))))))))))))))))
      clear hK hb0 hb1 hb2 hk0 hk1 hk2 fT f7 f8 f19 f20 f35 f36 f37 f40
      go_simp
      go_at_call 14
      refine (dint_any 1 _ (by decide) (by decide)).mono ?_
      rintro en w4 ⟨v1, rfl, hr, hb⟩
      obtain ⟨hK, hB, hb0, hb1, hb2, hk0, hk1, hk2, fT, f7, f8, f19, f20, f35, f36, f37, f40, _⟩ := HALL.out
      have key := hK.out (v1) w4 (by rw [hGM]; exact ⟨hB.next hb, blk_below hb0 hb, blk_below hb1 hb, blk_below hb2 hb, hk0.below hb, hk1.below hb, hk2.below hb, tabs_step fT (fun c h => by rw [hTM] at h; cases h), (fun h0 => by rw [upd_ne v _ (by decide)]; have h := f7 (h0.resolve_right (by decide)); exact (h.below hb)), (kv f8 (by decide)), fun _ => by rw [upd_eq]; exact hr.c, (kv f20 (by decide)), (fun h0 => by rw [upd_ne v _ (by decide)]; have h := f35 (h0.resolve_right (by decide)); exact (let ⟨g, a1, a2, a3⟩ := h; ⟨g, a1, blk_below a2 hb, Kd.C_below a3 hb⟩)), (fun h0 => by rw [upd_ne v _ (by decide)]; have h := f36 (h0.resolve_right (by decide)); exact (h.below hb)), (kv f37 (by decide)), (kv f40 (by decide))⟩)
      clear hb0 hb1 hb2 hk0 hk1 hk2 fT f7 f8 f19 f20 f35 f36 f37 f40 hK HALL
      simpa [upd, dg] using key
    case succ.succ.succ.succ.succ.succ.succ.succ.succ.succ.succ.succ.succ.succ.succ.succ.succ.succ.succ.succ.zero =>
      have d18 := fT 18 _ (haft { on := 18, ground := .data } (by simp) rfl) (by rw [hTM]; rfl)
      have d19 := f19 (haft { on := 19, ground := .data } (by simp) rfl)
      have dg := fT 17 _ (haft { on := 17, ground := .guard } (by simp) rfl) (by rw [hTM]; rfl)
      rw [if_pos (by simp [Region.wanted, yielded, dg])]
      have K2 := hk1
      have HALL := Aside0.mk (And.intro hK (And.intro hB (And.intro hb0 ( And.intro hb1 ( And.intro hb2 ( And.intro hk0 ( And.intro hk1 ( And.intro hk2 ( And.intro fT ( And.intro f7 ( And.intro f8 ( And.intro f19 ( And.intro f20 ( And.intro f35 ( And.intro f36 ( And.intro f37 ( And.intro f40 (True.intro))))))))))))))))))
      clear hK hb0 hb1 hb2 hk0 hk1 hk2 fT f7 f8 f19 f20 f35 f36 f37 f40
      go_simp
      go_at_call 10
      refine (same_self K2.c d19 (Ok.of 2 (by decide) (by decide) (by decide) (by decide))).mono ?_
      rintro en w4 ⟨rfl, hb⟩
      obtain ⟨hK, hB, hb0, hb1, hb2, hk0, hk1, hk2, fT, f7, f8, f19, f20, f35, f36, f37, f40, _⟩ := HALL.out
      have key := hK.out (.bool true) w4 (by rw [hGM]; exact ⟨hB.next hb, blk_below hb0 hb, blk_below hb1 hb, blk_below hb2 hb, hk0.below hb, hk1.below hb, hk2.below hb, tabs_step fT (fun c h => by rw [hTM] at h; cases h), (fun h0 => by rw [upd_ne v _ (by decide)]; have h := f7 (h0.resolve_right (by decide)); exact (h.below hb)), (kv f8 (by decide)), (fun h0 => by rw [upd_ne v _ (by decide)]; have h := f19 (h0.resolve_right (by decide)); exact (h.below hb)), fun _ => by rw [upd_eq], (fun h0 => by rw [upd_ne v _ (by decide)]; have h := f35 (h0.resolve_right (by decide)); exact (let ⟨g, a1, a2, a3⟩ := h; ⟨g, a1, blk_below a2 hb, Kd.C_below a3 hb⟩)), (fun h0 => by rw [upd_ne v _ (by decide)]; have h := f36 (h0.resolve_right (by decide)); exact (h.below hb)), (kv f37 (by decide)), (kv f40 (by decide))⟩)
      clear hb0 hb1 hb2 hk0 hk1 hk2 fT f7 f8 f19 f20 f35 f36 f37 f40 hK HALL
      simpa [upd, d18, dg] using key
    case succ.succ.succ.succ.succ.succ.succ.succ.succ.succ.succ.succ.succ.succ.succ.succ.succ.succ.succ.succ.succ.zero =>
      have d17 := fT 17 _ (haft { on := 17, ground := .data } (by simp) rfl) (by rw [hTM]; rfl)
      have d20 := f20 (haft { on := 20, ground := .data } (by simp) rfl)
      rw [if_pos (by rfl)]
      have hb := Below.refl W.heap.size W
      have key := hK.out (.bool true) W (by rw [hGM]; exact ⟨hB.next hb, blk_below hb0 hb, blk_below hb1 hb, blk_below hb2 hb, hk0.below hb, hk1.below hb, hk2.below hb, tabs_step fT (fun c h => by rw [hTM] at h; exact Option.some.inj (Option.some.inj h)), (fun h0 => by rw [upd_ne v _ (by decide)]; have h := f7 (h0.resolve_right (by decide)); exact (h.below hb)), (kv f8 (by decide)), (fun h0 => by rw [upd_ne v _ (by decide)]; have h := f19 (h0.resolve_right (by decide)); exact (h.below hb)), (kv f20 (by decide)), (fun h0 => by rw [upd_ne v _ (by decide)]; have h := f35 (h0.resolve_right (by decide)); exact (let ⟨g, a1, a2, a3⟩ := h; ⟨g, a1, blk_below a2 hb, Kd.C_below a3 hb⟩)), (fun h0 => by rw [upd_ne v _ (by decide)]; have h := f36 (h0.resolve_right (by decide)); exact (h.below hb)), (kv f37 (by decide)), (kv f40 (by decide))⟩)
      clear hb0 hb1 hb2 hk0 hk1 hk2 fT f7 f8 f19 f20 f35 f36 f37 f40 hK hb
      go_simp
      simpa [upd, d17, d20] using key
    case succ.succ.succ.succ.succ.succ.succ.succ.succ.succ.succ.succ.succ.succ.succ.succ.succ.succ.succ.succ.succ.succ.zero =>
      have d21 := fT 21 _ (haft { on := 21, ground := .data } (by simp) rfl) (by rw [hTM]; rfl)
      rw [if_pos (by rfl)]
      have hb := Below.refl W.heap.size W
      have key := hK.out (.bool true) W (by rw [hGM]; exact ⟨hB.next hb, blk_below hb0 hb, blk_below hb1 hb, blk_below hb2 hb, hk0.below hb, hk1.below hb, hk2.below hb, tabs_step fT (fun c h => by rw [hTM] at h; exact Option.some.inj (Option.some.inj h)), (fun h0 => by rw [upd_ne v _ (by decide)]; have h := f7 (h0.resolve_right (by decide)); exact (h.below hb)), (kv f8 (by decide)), (fun h0 => by rw [upd_ne v _ (by decide)]; have h := f19 (h0.resolve_right (by decide)); exact (h.below hb)), (kv f20 (by decide)), (fun h0 => by rw [upd_ne v _ (by decide)]; have h := f35 (h0.resolve_right (by decide)); exact (let ⟨g, a1, a2, a3⟩ := h; ⟨g, a1, blk_below a2 hb, Kd.C_below a3 hb⟩)), (fun h0 => by rw [upd_ne v _ (by decide)]; have h := f36 (h0.resolve_right (by decide)); exact (h.below hb)), (kv f37 (by decide)), (kv f40 (by decide))⟩)
      clear hb0 hb1 hb2 hk0 hk1 hk2 fT f7 f8 f19 f20 f35 f36 f37 f40 hK hb
      go_simp
      simpa [upd, d21] using key
    case succ.succ.succ.succ.succ.succ.succ.succ.succ.succ.succ.succ.succ.succ.succ.succ.succ.succ.succ.succ.succ.succ.succ.zero =>
      have dg := fT 22 _ (haft { on := 22, ground := .guard } (by simp) rfl) (by rw [hTM]; rfl)
      rw [if_pos (by simp [Region.wanted, yielded, dg])]
      have hb := Below.refl W.heap.size W
      have key := hK.out (.int .i64 5) W (by rw [hGM]; exact ⟨hB.next hb, blk_below hb0 hb, blk_below hb1 hb, blk_below hb2 hb, hk0.below hb, hk1.below hb, hk2.below hb, tabs_step fT (fun c h => by rw [hTM] at h; exact Option.some.inj (Option.some.inj h)), (fun h0 => by rw [upd_ne v _ (by decide)]; have h := f7 (h0.resolve_right (by decide)); exact (h.below hb)), (kv f8 (by decide)), (fun h0 => by rw [upd_ne v _ (by decide)]; have h := f19 (h0.resolve_right (by decide)); exact (h.below hb)), (kv f20 (by decide)), (fun h0 => by rw [upd_ne v _ (by decide)]; have h := f35 (h0.resolve_right (by decide)); exact (let ⟨g, a1, a2, a3⟩ := h; ⟨g, a1, blk_below a2 hb, Kd.C_below a3 hb⟩)), (fun h0 => by rw [upd_ne v _ (by decide)]; have h := f36 (h0.resolve_right (by decide)); exact (h.below hb)), (kv f37 (by decide)), (kv f40 (by decide))⟩)
      clear hb0 hb1 hb2 hk0 hk1 hk2 fT f7 f8 f19 f20 f35 f36 f37 f40 hK hb
      go_simp
      simpa [upd, dg] using key
    case succ.succ.succ.succ.succ.succ.succ.succ.succ.succ.succ.succ.succ.succ.succ.succ.succ.succ.succ.succ.succ.succ.succ.succ.zero =>
      have d23 := fT 23 _ (haft { on := 23, ground := .data } (by simp) rfl) (by rw [hTM]; rfl)
      have dg := fT 22 _ (haft { on := 22, ground := .guard } (by simp) rfl) (by rw [hTM]; rfl)
      rw [if_pos (by simp [Region.wanted, yielded, dg])]
      have hb := Below.refl W.heap.size W
      have key := hK.out (.bool true) W (by rw [hGM]; exact ⟨hB.next hb, blk_below hb0 hb, blk_below hb1 hb, blk_below hb2 hb, hk0.below hb, hk1.below hb, hk2.below hb, tabs_step fT (fun c h => by rw [hTM] at h; exact Option.some.inj (Option.some.inj h)), (fun h0 => by rw [upd_ne v _ (by decide)]; have h := f7 (h0.resolve_right (by decide)); exact (h.below hb)), (kv f8 (by decide)), (fun h0 => by rw [upd_ne v _ (by decide)]; have h := f19 (h0.resolve_right (by decide)); exact (h.below hb)), (kv f20 (by decide)), (fun h0 => by rw [upd_ne v _ (by decide)]; have h := f35 (h0.resolve_right (by decide)); exact (let ⟨g, a1, a2, a3⟩ := h; ⟨g, a1, blk_below a2 hb, Kd.C_below a3 hb⟩)), (fun h0 => by rw [upd_ne v _ (by decide)]; have h := f36 (h0.resolve_right (by decide)); exact (h.below hb)), (kv f37 (by decide)), (kv f40 (by decide))⟩)
      clear hb0 hb1 hb2 hk0 hk1 hk2 fT f7 f8 f19 f20 f35 f36 f37 f40 hK hb
      go_simp
      simpa [upd, d23, dg] using key
    case succ.succ.succ.succ.succ.succ.succ.succ.succ.succ.succ.succ.succ.succ.succ.succ.succ.succ.succ.succ.succ.succ.succ.succ.succ.zero =>
      have d22 := fT 22 _ (haft { on := 22, ground := .data } (by simp) rfl) (by rw [hTM]; rfl)
      have d24 := fT 24 _ (haft { on := 24, ground := .data } (by simp) rfl) (by rw [hTM]; rfl)
      rw [if_pos (by rfl)]
      have hb := Below.refl W.heap.size W
      have key := hK.out (.bool true) W (by rw [hGM]; exact ⟨hB.next hb, blk_below hb0 hb, blk_below hb1 hb, blk_below hb2 hb, hk0.below hb, hk1.below hb, hk2.below hb, tabs_step fT (fun c h => by rw [hTM] at h; exact Option.some.inj (Option.some.inj h)), (fun h0 => by rw [upd_ne v _ (by decide)]; have h := f7 (h0.resolve_right (by decide)); exact (h.below hb)), (kv f8 (by decide)), (fun h0 => by rw [upd_ne v _ (by decide)]; have h := f19 (h0.resolve_right (by decide)); exact (h.below hb)), (kv f20 (by decide)), (fun h0 => by rw [upd_ne v _ (by decide)]; have h := f35 (h0.resolve_right (by decide)); exact (let ⟨g, a1, a2, a3⟩ := h; ⟨g, a1, blk_below a2 hb, Kd.C_below a3 hb⟩)), (fun h0 => by rw [upd_ne v _ (by decide)]; have h := f36 (h0.resolve_right (by decide)); exact (h.below hb)), (kv f37 (by decide)), (kv f40 (by decide))⟩)
      clear hb0 hb1 hb2 hk0 hk1 hk2 fT f7 f8 f19 f20 f35 f36 f37 f40 hK hb
      go_simp
      simpa [upd, d22, d24] using key
    case succ.succ.succ.succ.succ.succ.succ.succ.succ.succ.succ.succ.succ.succ.succ.succ.succ.succ.succ.succ.succ.succ.succ.succ.succ.succ.zero =>
      have d25 := fT 25 _ (haft { on := 25, ground := .data } (by simp) rfl) (by rw [hTM]; rfl)
      rw [if_pos (by rfl)]
      have hb := Below.refl W.heap.size W
      have key := hK.out (.bool true) W (by rw [hGM]; exact ⟨hB.next hb, blk_below hb0 hb, blk_below hb1 hb, blk_below hb2 hb, hk0.below hb, hk1.below hb, hk2.below hb, tabs_step fT (fun c h => by rw [hTM] at h; exact Option.some.inj (Option.some.inj h)), (fun h0 => by rw [upd_ne v _ (by decide)]; have h := f7 (h0.resolve_right (by decide)); exact (h.below hb)), (kv f8 (by decide)), (fun h0 => by rw [upd_ne v _ (by decide)]; have h := f19 (h0.resolve_right (by decide)); exact (h.below hb)), (kv f20 (by decide)), (fun h0 => by rw [upd_ne v _ (by decide)]; have h := f35 (h0.resolve_right (by decide)); exact (let ⟨g, a1, a2, a3⟩ := h; ⟨g, a1, blk_below a2 hb, Kd.C_below a3 hb⟩)), (fun h0 => by rw [upd_ne v _ (by decide)]; have h := f36 (h0.resolve_right (by decide)); exact (h.below hb)), (kv f37 (by decide)), (kv f40 (by decide))⟩)
      clear hb0 hb1 hb2 hk0 hk1 hk2 fT f7 f8 f19 f20 f35 f36 f37 f40 hK hb
      go_simp
      simpa [upd, d25] using key
    case succ.succ.succ.succ.succ.succ.succ.succ.succ.succ.succ.succ.succ.succ.succ.succ.succ.succ.succ.succ.succ.succ.succ.succ.succ.succ.succ.zero =>
      have dg := fT 26 _ (haft { on := 26, ground := .guard } (by simp) rfl) (by rw [hTM]; rfl)
      rw [if_pos (by simp [Region.wanted, yielded, dg])]
      have hb := Below.refl W.heap.size W
      have key := hK.out (.bool true) W (by rw [hGM]; exact ⟨hB.next hb, blk_below hb0 hb, blk_below hb1 hb, blk_below hb2 hb, hk0.below hb, hk1.below hb, hk2.below hb, tabs_step fT (fun c h => by rw [hTM] at h; exact Option.some.inj (Option.some.inj h)), (fun h0 => by rw [upd_ne v _ (by decide)]; have h := f7 (h0.resolve_right (by decide)); exact (h.below hb)), (kv f8 (by decide)), (fun h0 => by rw [upd_ne v _ (by decide)]; have h := f19 (h0.resolve_right (by decide)); exact (h.below hb)), (kv f20 (by decide)), (fun h0 => by rw [upd_ne v _ (by decide)]; have h := f35 (h0.resolve_right (by decide)); exact (let ⟨g, a1, a2, a3⟩ := h; ⟨g, a1, blk_below a2 hb, Kd.C_below a3 hb⟩)), (fun h0 => by rw [upd_ne v _ (by decide)]; have h := f36 (h0.resolve_right (by decide)); exact (h.below hb)), (kv f37 (by decide)), (kv f40 (by decide))⟩)
      clear hb0 hb1 hb2 hk0 hk1 hk2 fT f7 f8 f19 f20 f35 f36 f37 f40 hK hb
      go_simp
      simpa [upd, dg] using key
    case succ.succ.succ.succ.succ.succ.succ.succ.succ.succ.succ.succ.succ.succ.succ.succ.succ.succ.succ.succ.succ.succ.succ.succ.succ.succ.succ.succ.zero =>
      have d26 := fT 26 _ (haft { on := 26, ground := .data } (by simp) rfl) (by rw [hTM]; rfl)
      have d27 := fT 27 _ (haft { on := 27, ground := .data } (by simp) rfl) (by rw [hTM]; rfl)
      rw [if_pos (by rfl)]
      have hb := Below.refl W.heap.size W
      have key := hK.out (.bool true) W (by rw [hGM]; exact ⟨hB.next hb, blk_below hb0 hb, blk_below hb1 hb, blk_below hb2 hb, hk0.below hb, hk1.below hb, hk2.below hb, tabs_step fT (fun c h => by rw [hTM] at h; exact Option.some.inj (Option.some.inj h)), (fun h0 => by rw [upd_ne v _ (by decide)]; have h := f7 (h0.resolve_right (by decide)); exact (h.below hb)), (kv f8 (by decide)), (fun h0 => by rw [upd_ne v _ (by decide)]; have h := f19 (h0.resolve_right (by decide)); exact (h.below hb)), (kv f20 (by decide)), (fun h0 => by rw [upd_ne v _ (by decide)]; have h := f35 (h0.resolve_right (by decide)); exact (let ⟨g, a1, a2, a3⟩ := h; ⟨g, a1, blk_below a2 hb, Kd.C_below a3 hb⟩)), (fun h0 => by rw [upd_ne v _ (by decide)]; have h := f36 (h0.resolve_right (by decide)); exact (h.below hb)), (kv f37 (by decide)), (kv f40 (by decide))⟩)
      clear hb0 hb1 hb2 hk0 hk1 hk2 fT f7 f8 f19 f20 f35 f36 f37 f40 hK hb
      go_simp
      simpa [upd, d26, d27] using key
    case succ.succ.succ.succ.succ.succ.succ.succ.succ.succ.succ.succ.succ.succ.succ.succ.succ.succ.succ.succ.succ.succ.succ.succ.succ.succ.succ.succ.succ.zero =>
      have d28 := fT 28 _ (haft { on := 28, ground := .data } (by simp) rfl) (by rw [hTM]; rfl)
      rw [if_pos (by rfl)]
      have hb := Below.refl W.heap.size W
      have key := hK.out (.bool true) W (by rw [hGM]; exact ⟨hB.next hb, blk_below hb0 hb, blk_below hb1 hb, blk_below hb2 hb, hk0.below hb, hk1.below hb, hk2.below hb, tabs_step fT (fun c h => by rw [hTM] at h; exact Option.some.inj (Option.some.inj h)), (fun h0 => by rw [upd_ne v _ (by decide)]; have h := f7 (h0.resolve_right (by decide)); exact (h.below hb)), (kv f8 (by decide)), (fun h0 => by rw [upd_ne v _ (by decide)]; have h := f19 (h0.resolve_right (by decide)); exact (h.below hb)), (kv f20 (by decide)), (fun h0 => by rw [upd_ne v _ (by decide)]; have h := f35 (h0.resolve_right (by decide)); exact (let ⟨g, a1, a2, a3⟩ := h; ⟨g, a1, blk_below a2 hb, Kd.C_below a3 hb⟩)), (fun h0 => by rw [upd_ne v _ (by decide)]; have h := f36 (h0.resolve_right (by decide)); exact (h.below hb)), (kv f37 (by decide)), (kv f40 (by decide))⟩)
      clear hb0 hb1 hb2 hk0 hk1 hk2 fT f7 f8 f19 f20 f35 f36 f37 f40 hK hb
      go_simp
      simpa [upd, d28] using key
    case succ.succ.succ.succ.succ.succ.succ.succ.succ.succ.succ.succ.succ.succ.succ.succ.succ.succ.succ.succ.succ.succ.succ.succ.succ.succ.succ.succ.succ.succ.zero =>
      have dg := fT 29 _ (haft { on := 29, ground := .guard } (by simp) rfl) (by rw [hTM]; rfl)
      rw [if_pos (by simp [Region.wanted, yielded, dg])]
      have hb := Below.refl W.heap.size W
      have key := hK.out (.int .i64 0) W (by rw [hGM]; exact ⟨hB.next hb, blk_below hb0 hb, blk_below hb1 hb, blk_below hb2 hb, hk0.below hb, hk1.below hb, hk2.below hb, tabs_step fT (fun c h => by rw [hTM] at h; exact Option.some.inj (Option.some.inj h)), (fun h0 => by rw [upd_ne v _ (by decide)]; have h := f7 (h0.resolve_right (by decide)); exact (h.below hb)), (kv f8 (by decide)), (fun h0 => by rw [upd_ne v _ (by decide)]; have h := f19 (h0.resolve_right (by decide)); exact (h.below hb)), (kv f20 (by decide)), (fun h0 => by rw [upd_ne v _ (by decide)]; have h := f35 (h0.resolve_right (by decide)); exact (let ⟨g, a1, a2, a3⟩ := h; ⟨g, a1, blk_below a2 hb, Kd.C_below a3 hb⟩)), (fun h0 => by rw [upd_ne v _ (by decide)]; have h := f36 (h0.resolve_right (by decide)); exact (h.below hb)), (kv f37 (by decide)), (kv f40 (by decide))⟩)
      clear hb0 hb1 hb2 hk0 hk1 hk2 fT f7 f8 f19 f20 f35 f36 f37 f40 hK hb
      go_simp
      simpa [upd, dg] using key
    case succ.succ.succ.succ.succ.succ.succ.succ.succ.succ.succ.succ.succ.succ.succ.succ.succ.succ.succ.succ.succ.succ.succ.succ.succ.succ.succ.succ.succ.succ.succ.zero =>
      have d30 := fT 30 _ (haft { on := 30, ground := .data } (by simp) rfl) (by rw [hTM]; rfl)
      have dg := fT 29 _ (haft { on := 29, ground := .guard } (by simp) rfl) (by rw [hTM]; rfl)
      rw [if_pos (by simp [Region.wanted, yielded, dg])]
      have hb := Below.refl W.heap.size W
      have key := hK.out (.bool true) W (by rw [hGM]; exact ⟨hB.next hb, blk_below hb0 hb, blk_below hb1 hb, blk_below hb2 hb, hk0.below hb, hk1.below hb, hk2.below hb, tabs_step fT (fun c h => by rw [hTM] at h; exact Option.some.inj (Option.some.inj h)), (fun h0 => by rw [upd_ne v _ (by decide)]; have h := f7 (h0.resolve_right (by decide)); exact (h.below hb)), (kv f8 (by decide)), (fun h0 => by rw [upd_ne v _ (by decide)]; have h := f19 (h0.resolve_right (by decide)); exact (h.below hb)), (kv f20 (by decide)), (fun h0 => by rw [upd_ne v _ (by decide)]; have h := f35 (h0.resolve_right (by decide)); exact (let ⟨g, a1, a2, a3⟩ := h; ⟨g, a1, blk_below a2 hb, Kd.C_below a3 hb⟩)), (fun h0 => by rw [upd_ne v _ (by decide)]; have h := f36 (h0.resolve_right (by decide)); exact (h.below hb)), (kv f37 (by decide)), (kv f40 (by decide))⟩)
      clear hb0 hb1 hb2 hk0 hk1 hk2 fT f7 f8 f19 f20 f35 f36 f37 f40 hK hb
      go_simp
      simpa [upd, d30, dg] using key
    case succ.succ.succ.succ.succ.succ.succ.succ.succ.succ.succ.succ.succ.succ.succ.succ.succ.succ.succ.succ.succ.succ.succ.succ.succ.succ.succ.succ.succ.succ.succ.succ.zero =>
      have d29 := fT 29 _ (haft { on := 29, ground := .data } (by simp) rfl) (by rw [hTM]; rfl)
      have d31 := fT 31 _ (haft { on := 31, ground := .data } (by simp) rfl) (by rw [hTM]; rfl)
      rw [if_pos (by rfl)]
      have hb := Below.refl W.heap.size W
      have key := hK.out (.bool true) W (by rw [hGM]; exact ⟨hB.next hb, blk_below hb0 hb, blk_below hb1 hb, blk_below hb2 hb, hk0.below hb, hk1.below hb, hk2.below hb, tabs_step fT (fun c h => by rw [hTM] at h; exact Option.some.inj (Option.some.inj h)), (fun h0 => by rw [upd_ne v _ (by decide)]; have h := f7 (h0.resolve_right (by decide)); exact (h.below hb)), (kv f8 (by decide)), (fun h0 => by rw [upd_ne v _ (by decide)]; have h := f19 (h0.resolve_right (by decide)); exact (h.below hb)), (kv f20 (by decide)), (fun h0 => by rw [upd_ne v _ (by decide)]; have h := f35 (h0.resolve_right (by decide)); exact (let ⟨g, a1, a2, a3⟩ := h; ⟨g, a1, blk_below a2 hb, Kd.C_below a3 hb⟩)), (fun h0 => by rw [upd_ne v _ (by decide)]; have h := f36 (h0.resolve_right (by decide)); exact (h.below hb)), (kv f37 (by decide)), (kv f40 (by decide))⟩)
      clear hb0 hb1 hb2 hk0 hk1 hk2 fT f7 f8 f19 f20 f35 f36 f37 f40 hK hb
      go_simp
      simpa [upd, d29, d31] using key
    case succ.succ.succ.succ.succ.succ.succ.succ.succ.succ.succ.succ.succ.succ.succ.succ.succ.succ.succ.succ.succ.succ.succ.succ.succ.succ.succ.succ.succ.succ.succ.succ.succ.zero =>
      have d32 := fT 32 _ (haft { on := 32, ground := .data } (by simp) rfl) (by rw [hTM]; rfl)
      rw [if_pos (by rfl)]
      have hb := Below.refl W.heap.size W
      have key := hK.out (.bool true) W (by rw [hGM]; exact ⟨hB.next hb, blk_below hb0 hb, blk_below hb1 hb, blk_below hb2 hb, hk0.below hb, hk1.below hb, hk2.below hb, tabs_step fT (fun c h => by rw [hTM] at h; exact Option.some.inj (Option.some.inj h)), (fun h0 => by rw [upd_ne v _ (by decide)]; have h := f7 (h0.resolve_right (by decide)); exact (h.below hb)), (kv f8 (by decide)), (fun h0 => by rw [upd_ne v _ (by decide)]; have h := f19 (h0.resolve_right (by decide)); exact (h.below hb)), (kv f20 (by decide)), (fun h0 => by rw [upd_ne v _ (by decide)]; have h := f35 (h0.resolve_right (by decide)); exact (let ⟨g, a1, a2, a3⟩ := h; ⟨g, a1, blk_below a2 hb, Kd.C_below a3 hb⟩)), (fun h0 => by rw [upd_ne v _ (by decide)]; have h := f36 (h0.resolve_right (by decide)); exact (h.below hb)), (kv f37 (by decide)), (kv f40 (by decide))⟩)
      clear hb0 hb1 hb2 hk0 hk1 hk2 fT f7 f8 f19 f20 f35 f36 f37 f40 hK hb
      go_simp
      simpa [upd, d32] using key
    case succ.succ.succ.succ.succ.succ.succ.succ.succ.succ.succ.succ.succ.succ.succ.succ.succ.succ.succ.succ.succ.succ.succ.succ.succ.succ.succ.succ.succ.succ.succ.succ.succ.succ.zero =>
      have dg := fT 33 _ (haft { on := 33, ground := .guard } (by simp) rfl) (by rw [hTM]; rfl)
      rw [if_pos (by simp [Region.wanted, yielded, dg])]
      have cc0 := (box_cell (v := .bool b4) hb2 0 rfl).1
      have cc1 := (box_cell (v := .slice A4 n4 c4) hb2 1 rfl).1
      have cc2 := (box_cell (v := .int .i64 x4) hb2 2 rfl).1
      have hb := Below.refl W.heap.size W
      have key := hK.out (.agg #[.bool b4, .slice A4 n4 c4, .int .i64 x4]) W (by rw [hGM]; exact ⟨hB.next hb, blk_below hb0 hb, blk_below hb1 hb, blk_below hb2 hb, hk0.below hb, hk1.below hb, hk2.below hb, tabs_step fT (fun c h => by rw [hTM] at h; exact Option.some.inj (Option.some.inj h)), (fun h0 => by rw [upd_ne v _ (by decide)]; have h := f7 (h0.resolve_right (by decide)); exact (h.below hb)), (kv f8 (by decide)), (fun h0 => by rw [upd_ne v _ (by decide)]; have h := f19 (h0.resolve_right (by decide)); exact (h.below hb)), (kv f20 (by decide)), (fun h0 => by rw [upd_ne v _ (by decide)]; have h := f35 (h0.resolve_right (by decide)); exact (let ⟨g, a1, a2, a3⟩ := h; ⟨g, a1, blk_below a2 hb, Kd.C_below a3 hb⟩)), (fun h0 => by rw [upd_ne v _ (by decide)]; have h := f36 (h0.resolve_right (by decide)); exact (h.below hb)), (kv f37 (by decide)), (kv f40 (by decide))⟩)
      clear hb0 hb1 hb2 hk0 hk1 hk2 fT f7 f8 f19 f20 f35 f36 f37 f40 hK hb
      go_simp
      simpa [upd, dg] using key
    case succ.succ.succ.succ.succ.succ.succ.succ.succ.succ.succ.succ.succ.succ.succ.succ.succ.succ.succ.succ.succ.succ.succ.succ.succ.succ.succ.succ.succ.succ.succ.succ.succ.succ.succ.zero =>
      have dg := fT 33 _ (haft { on := 33, ground := .guard } (by simp) rfl) (by rw [hTM]; rfl)
      rw [if_pos (by simp [Region.wanted, yielded, dg])]
      have HALL := Aside0.mk (And.intro hK (And.intro hB (And.intro hb0 ( And.intro hb1 ( And.intro hb2 ( And.intro hk0 ( And.intro hk1 ( And.intro hk2 ( And.intro fT ( And.intro f7 ( And.intro f8 ( And.intro f19 ( And.intro f20 ( And.intro f35 ( And.intro f36 ( And.intro f37 ( And.intro f40 (True.intro))))))))))))))))))
      clear hK hb0 hb1 hb2 hk0 hk1 hk2 fT f7 f8 f19 f20 f35 f36 f37 f40
      have hb := below_alloc (Below.refl W.heap.size W) (.cells #[.int .u64 3] 23)
      go_simp
      obtain ⟨hK, hB, hb0, hb1, hb2, hk0, hk1, hk2, fT, f7, f8, f19, f20, f35, f36, f37, f40, _⟩ := HALL.out
      have key := hK.out (.slice (some ⟨W.heap.size, 0, none⟩) 1 1) (W.alloc (.cells #[.int .u64 3] 23)) (by rw [hGM]; exact ⟨hB.next hb, blk_below hb0 hb, blk_below hb1 hb, blk_below hb2 hb, hk0.below hb, hk1.below hb, hk2.below hb, tabs_step fT (fun c h => by rw [hTM] at h; cases h), (fun h0 => by rw [upd_ne v _ (by decide)]; have h := f7 (h0.resolve_right (by decide)); exact (h.below hb)), (kv f8 (by decide)), (fun h0 => by rw [upd_ne v _ (by decide)]; have h := f19 (h0.resolve_right (by decide)); exact (h.below hb)), (kv f20 (by decide)), fun _ => by rw [upd_eq]; exact ⟨W.heap.size, rfl, blk_new W _, row_c W 3⟩, (fun h0 => by rw [upd_ne v _ (by decide)]; have h := f36 (h0.resolve_right (by decide)); exact (h.below hb)), (kv f37 (by decide)), (kv f40 (by decide))⟩)
      clear hb0 hb1 hb2 hk0 hk1 hk2 fT f7 f8 f19 f20 f35 f36 f37 f40 hK HALL
      simpa [upd, dg] using key
    case succ.succ.succ.succ.succ.succ.succ.succ.succ.succ.succ.succ.succ.succ.succ.succ.succ.succ.succ.succ.succ.succ.succ.succ.succ.succ.succ.succ.succ.succ.succ.succ.succ.succ.succ.succ.zero =>
      have d35 := f35 (haft { on := 35, ground := .data } (by simp) rfl)
      have dg := fT 33 _ (haft { on := 33, ground := .guard } (by simp) rfl) (by rw [hTM]; rfl)
      rw [if_pos (by simp [Region.wanted, yielded, dg])]
      have HALL := Aside0.mk (And.intro hK (And.intro hB (And.intro hb0 ( And.intro hb1 ( And.intro hb2 ( And.intro hk0 ( And.intro hk1 ( And.intro hk2 ( And.intro fT ( And.intro f7 ( And.intro f8 ( And.intro f19 ( And.intro f20 ( And.intro f35 ( And.intro f36 ( And.intro f37 ( And.intro f40 (True.intro))))))))))))))))))
      clear hK hb0 hb1 hb2 hk0 hk1 hk2 fT f7 f8 f19 f20 f35 f36 f37 f40
      obtain ⟨g, a1, a2, a3⟩ := d35
      have hb := Below.refl W.heap.size W
      have HCL := Aside0.mk (CDy.lit (b := false) (m := 3) (e := -2) a2 a3 (by rw [show cman (sgn false 3) = 3 from by kernel_rfl]; exact limbs_one (by decide) (by decide)) (by kernel_rfl) (by kernel_rfl))
      clear a2 a3
      go_simp
      obtain ⟨hK, hB, hb0, hb1, hb2, hk0, hk1, hk2, fT, f7, f8, f19, f20, f35, f36, f37, f40, _⟩ := HALL.out
      have key := hK.out (.agg #[.bool false, .slice (some ⟨g, 0, none⟩) 1 1, .int .i64 (-2)]) W (by rw [hGM]; exact ⟨hB.next hb, blk_below hb0 hb, blk_below hb1 hb, blk_below hb2 hb, hk0.below hb, hk1.below hb, hk2.below hb, tabs_step fT (fun c h => by rw [hTM] at h; cases h), (fun h0 => by rw [upd_ne v _ (by decide)]; have h := f7 (h0.resolve_right (by decide)); exact (h.below hb)), (kv f8 (by decide)), (fun h0 => by rw [upd_ne v _ (by decide)]; have h := f19 (h0.resolve_right (by decide)); exact (h.below hb)), (kv f20 (by decide)), (fun h0 => by rw [upd_ne v _ (by decide)]; have h := f35 (h0.resolve_right (by decide)); exact (let ⟨g, a1, a2, a3⟩ := h; ⟨g, a1, blk_below a2 hb, Kd.C_below a3 hb⟩)), fun _ => by rw [upd_eq]; exact HCL.out, (kv f37 (by decide)), (kv f40 (by decide))⟩)
      clear hb0 hb1 hb2 hk0 hk1 hk2 fT f7 f8 f19 f20 f35 f36 f37 f40 hK HALL
      simpa [upd, dg, a1] using key
    case succ.succ.succ.succ.succ.succ.succ.succ.succ.succ.succ.succ.succ.succ.succ.succ.succ.succ.succ.succ.succ.succ.succ.succ.succ.succ.succ.succ.succ.succ.succ.succ.succ.succ.succ.succ.succ.zero =>
      have d34 := fT 34 _ (haft { on := 34, ground := .data } (by simp) rfl) (by rw [hTM]; rfl)
      have d36 := f36 (haft { on := 36, ground := .data } (by simp) rfl)
      have dg := fT 33 _ (haft { on := 33, ground := .guard } (by simp) rfl) (by rw [hTM]; rfl)
      rw [if_pos (by simp [Region.wanted, yielded, dg])]
      have K4 := hk2
      have HALL := Aside0.mk (And.intro hK (And.intro hB (And.intro hb0 ( And.intro hb1 ( And.intro hb2 ( And.intro hk0 ( And.intro hk1 ( And.intro hk2 ( And.intro fT ( And.intro f7 ( And.intro f8 ( And.intro f19 ( And.intro f20 ( And.intro f35 ( And.intro f36 ( And.intro f37 ( And.intro f40 (True.intro))))))))))))))))))
      clear hK hb0 hb1 hb2 hk0 hk1 hk2 fT f7 f8 f19 f20 f35 f36 f37 f40
      go_simp
      go_at_call 10
      refine (same_self K4.c d36 (Ok.of 2 (by decide) (by decide) (by decide) (by decide))).mono ?_
      rintro en w4 ⟨rfl, hb⟩
      obtain ⟨hK, hB, hb0, hb1, hb2, hk0, hk1, hk2, fT, f7, f8, f19, f20, f35, f36, f37, f40, _⟩ := HALL.out
      have key := hK.out (.bool true) w4 (by rw [hGM]; exact ⟨hB.next hb, blk_below hb0 hb, blk_below hb1 hb, blk_below hb2 hb, hk0.below hb, hk1.below hb, hk2.below hb, tabs_step fT (fun c h => by rw [hTM] at h; cases h), (fun h0 => by rw [upd_ne v _ (by decide)]; have h := f7 (h0.resolve_right (by decide)); exact (h.below hb)), (kv f8 (by decide)), (fun h0 => by rw [upd_ne v _ (by decide)]; have h := f19 (h0.resolve_right (by decide)); exact (h.below hb)), (kv f20 (by decide)), (fun h0 => by rw [upd_ne v _ (by decide)]; have h := f35 (h0.resolve_right (by decide)); exact (let ⟨g, a1, a2, a3⟩ := h; ⟨g, a1, blk_below a2 hb, Kd.C_below a3 hb⟩)), (fun h0 => by rw [upd_ne v _ (by decide)]; have h := f36 (h0.resolve_right (by decide)); exact (h.below hb)), fun _ => by rw [upd_eq], (kv f40 (by decide))⟩)
      clear hb0 hb1 hb2 hk0 hk1 hk2 fT f7 f8 f19 f20 f35 f36 f37 f40 hK HALL
      simpa [upd, d34, dg] using key
    case succ.succ.succ.succ.succ.succ.succ.succ.succ.succ.succ.succ.succ.succ.succ.succ.succ.succ.succ.succ.succ.succ.succ.succ.succ.succ.succ.succ.succ.succ.succ.succ.succ.succ.succ.succ.succ.succ.zero =>
      have d33 := fT 33 _ (haft { on := 33, ground := .data } (by simp) rfl) (by rw [hTM]; rfl)
      have d37 := f37 (haft { on := 37, ground := .data } (by simp) rfl)
      rw [if_pos (by rfl)]
      have hb := Below.refl W.heap.size W
      have key := hK.out (.bool true) W (by rw [hGM]; exact ⟨hB.next hb, blk_below hb0 hb, blk_below hb1 hb, blk_below hb2 hb, hk0.below hb, hk1.below hb, hk2.below hb, tabs_step fT (fun c h => by rw [hTM] at h; exact Option.some.inj (Option.some.inj h)), (fun h0 => by rw [upd_ne v _ (by decide)]; have h := f7 (h0.resolve_right (by decide)); exact (h.below hb)), (kv f8 (by decide)), (fun h0 => by rw [upd_ne v _ (by decide)]; have h := f19 (h0.resolve_right (by decide)); exact (h.below hb)), (kv f20 (by decide)), (fun h0 => by rw [upd_ne v _ (by decide)]; have h := f35 (h0.resolve_right (by decide)); exact (let ⟨g, a1, a2, a3⟩ := h; ⟨g, a1, blk_below a2 hb, Kd.C_below a3 hb⟩)), (fun h0 => by rw [upd_ne v _ (by decide)]; have h := f36 (h0.resolve_right (by decide)); exact (h.below hb)), (kv f37 (by decide)), (kv f40 (by decide))⟩)
      clear hb0 hb1 hb2 hk0 hk1 hk2 fT f7 f8 f19 f20 f35 f36 f37 f40 hK hb
      go_simp
      simpa [upd, d33, d37] using key
    case succ.succ.succ.succ.succ.succ.succ.succ.succ.succ.succ.succ.succ.succ.succ.succ.succ.succ.succ.succ.succ.succ.succ.succ.succ.succ.succ.succ.succ.succ.succ.succ.succ.succ.succ.succ.succ.succ.succ.zero =>
      have d38 := fT 38 _ (haft { on := 38, ground := .data } (by simp) rfl) (by rw [hTM]; rfl)
      rw [if_pos (by rfl)]
      have hb := Below.refl W.heap.size W
      have key := hK.out (.bool true) W (by rw [hGM]; exact ⟨hB.next hb, blk_below hb0 hb, blk_below hb1 hb, blk_below hb2 hb, hk0.below hb, hk1.below hb, hk2.below hb, tabs_step fT (fun c h => by rw [hTM] at h; exact Option.some.inj (Option.some.inj h)), (fun h0 => by rw [upd_ne v _ (by decide)]; have h := f7 (h0.resolve_right (by decide)); exact (h.below hb)), (kv f8 (by decide)), (fun h0 => by rw [upd_ne v _ (by decide)]; have h := f19 (h0.resolve_right (by decide)); exact (h.below hb)), (kv f20 (by decide)), (fun h0 => by rw [upd_ne v _ (by decide)]; have h := f35 (h0.resolve_right (by decide)); exact (let ⟨g, a1, a2, a3⟩ := h; ⟨g, a1, blk_below a2 hb, Kd.C_below a3 hb⟩)), (fun h0 => by rw [upd_ne v _ (by decide)]; have h := f36 (h0.resolve_right (by decide)); exact (h.below hb)), (kv f37 (by decide)), (kv f40 (by decide))⟩)
      clear hb0 hb1 hb2 hk0 hk1 hk2 fT f7 f8 f19 f20 f35 f36 f37 f40 hK hb
      go_simp
      simpa [upd, d38] using key
    case succ.succ.succ.succ.succ.succ.succ.succ.succ.succ.succ.succ.succ.succ.succ.succ.succ.succ.succ.succ.succ.succ.succ.succ.succ.succ.succ.succ.succ.succ.succ.succ.succ.succ.succ.succ.succ.succ.succ.succ.zero =>
      have dg := fT 39 _ (haft { on := 39, ground := .guard } (by simp) rfl) (by rw [hTM]; rfl)
      rw [if_pos (by simp [Region.wanted, yielded, dg])]
      have HALL := Aside0.mk (And.intro hK (And.intro hB (And.intro hb0 ( And.intro hb1 ( And.intro hb2 ( And.intro hk0 ( And.intro hk1 ( And.intro hk2 ( And.intro fT ( And.intro f7 ( And.intro f8 ( And.intro f19 ( And.intro f20 ( And.intro f35 ( And.intro f36 ( And.intro f37 ( And.intro f40 (True.intro))))))))))))))))))
      clear hK hb0 hb1 hb2 hk0 hk1 hk2 fT f7 f8 f19 f20 f35 f36 f37 f40
      go_simp
      go_at_call 28
      refine (QD.out _ (tab_below HT.out hB.1)).mono ?_
      rintro en w4 ⟨rfl, hb⟩
      obtain ⟨hK, hB, hb0, hb1, hb2, hk0, hk1, hk2, fT, f7, f8, f19, f20, f35, f36, f37, f40, _⟩ := HALL.out
      have key := hK.out (.bool true) w4 (by rw [hGM]; exact ⟨hB.next hb, blk_below hb0 hb, blk_below hb1 hb, blk_below hb2 hb, hk0.below hb, hk1.below hb, hk2.below hb, tabs_step fT (fun c h => by rw [hTM] at h; cases h), (fun h0 => by rw [upd_ne v _ (by decide)]; have h := f7 (h0.resolve_right (by decide)); exact (h.below hb)), (kv f8 (by decide)), (fun h0 => by rw [upd_ne v _ (by decide)]; have h := f19 (h0.resolve_right (by decide)); exact (h.below hb)), (kv f20 (by decide)), (fun h0 => by rw [upd_ne v _ (by decide)]; have h := f35 (h0.resolve_right (by decide)); exact (let ⟨g, a1, a2, a3⟩ := h; ⟨g, a1, blk_below a2 hb, Kd.C_below a3 hb⟩)), (fun h0 => by rw [upd_ne v _ (by decide)]; have h := f36 (h0.resolve_right (by decide)); exact (h.below hb)), (kv f37 (by decide)), fun _ => by rw [upd_eq]⟩)
      clear hb0 hb1 hb2 hk0 hk1 hk2 fT f7 f8 f19 f20 f35 f36 f37 f40 hK HALL
      simpa [upd, dg] using key
    case succ.succ.succ.succ.succ.succ.succ.succ.succ.succ.succ.succ.succ.succ.succ.succ.succ.succ.succ.succ.succ.succ.succ.succ.succ.succ.succ.succ.succ.succ.succ.succ.succ.succ.succ.succ.succ.succ.succ.succ.succ.zero =>
      have d39 := fT 39 _ (haft { on := 39, ground := .data } (by simp) rfl) (by rw [hTM]; rfl)
      have d40 := f40 (haft { on := 40, ground := .data } (by simp) rfl)
      rw [if_pos (by rfl)]
      have hb := Below.refl W.heap.size W
      have key := hK.out (.bool true) W (by rw [hGM]; exact ⟨hB.next hb, blk_below hb0 hb, blk_below hb1 hb, blk_below hb2 hb, hk0.below hb, hk1.below hb, hk2.below hb, tabs_step fT (fun c h => by rw [hTM] at h; exact Option.some.inj (Option.some.inj h)), (fun h0 => by rw [upd_ne v _ (by decide)]; have h := f7 (h0.resolve_right (by decide)); exact (h.below hb)), (kv f8 (by decide)), (fun h0 => by rw [upd_ne v _ (by decide)]; have h := f19 (h0.resolve_right (by decide)); exact (h.below hb)), (kv f20 (by decide)), (fun h0 => by rw [upd_ne v _ (by decide)]; have h := f35 (h0.resolve_right (by decide)); exact (let ⟨g, a1, a2, a3⟩ := h; ⟨g, a1, blk_below a2 hb, Kd.C_below a3 hb⟩)), (fun h0 => by rw [upd_ne v _ (by decide)]; have h := f36 (h0.resolve_right (by decide)); exact (h.below hb)), (kv f37 (by decide)), (kv f40 (by decide))⟩)
      clear hb0 hb1 hb2 hk0 hk1 hk2 fT f7 f8 f19 f20 f35 f36 f37 f40 hK hb
      go_simp
      simpa [upd, d39, d40] using key
    case succ.succ.succ.succ.succ.succ.succ.succ.succ.succ.succ.succ.succ.succ.succ.succ.succ.succ.succ.succ.succ.succ.succ.succ.succ.succ.succ.succ.succ.succ.succ.succ.succ.succ.succ.succ.succ.succ.succ.succ.succ.succ.zero =>
      have d41 := fT 41 _ (haft { on := 41, ground := .data } (by simp) rfl) (by rw [hTM]; rfl)
      rw [if_pos (by rfl)]
      have hb := Below.refl W.heap.size W
      have key := hK.out (.bool true) W (by rw [hGM]; exact ⟨hB.next hb, blk_below hb0 hb, blk_below hb1 hb, blk_below hb2 hb, hk0.below hb, hk1.below hb, hk2.below hb, tabs_step fT (fun c h => by rw [hTM] at h; exact Option.some.inj (Option.some.inj h)), (fun h0 => by rw [upd_ne v _ (by decide)]; have h := f7 (h0.resolve_right (by decide)); exact (h.below hb)), (kv f8 (by decide)), (fun h0 => by rw [upd_ne v _ (by decide)]; have h := f19 (h0.resolve_right (by decide)); exact (h.below hb)), (kv f20 (by decide)), (fun h0 => by rw [upd_ne v _ (by decide)]; have h := f35 (h0.resolve_right (by decide)); exact (let ⟨g, a1, a2, a3⟩ := h; ⟨g, a1, blk_below a2 hb, Kd.C_below a3 hb⟩)), (fun h0 => by rw [upd_ne v _ (by decide)]; have h := f36 (h0.resolve_right (by decide)); exact (h.below hb)), (kv f37 (by decide)), (kv f40 (by decide))⟩)
      clear hb0 hb1 hb2 hk0 hk1 hk2 fT f7 f8 f19 f20 f35 f36 f37 f40 hK hb
      go_simp
      simpa [upd, d41] using key
  case hendM =>
    intro v W L0 hall hGv
    rw [hGM] at hGv
    obtain ⟨hB, hb0, hb1, hb2, hk0, hk1, hk2, fT, f7, f8, f19, f20, f35, f36, f37, f40⟩ := hGv
    have d42 := fT 42 _ (hall 42 (by decide)) (by rw [hTM]; rfl)
    replace BEL := Aside0.mk hB
    clear hall hB fT f7 f8 f19 f20 f35 f36 f37 f40
    simp only [setAll, List.setIfInBounds_toArray, List.set_cons_zero, List.set_cons_succ, Nat.reduceAdd, d42]
    go_wp2
    go_ret
    exact ⟨rfl, BEL.out.1⟩
end Go.Proofs.YtgpjplelgffocaaDoor

namespace Go.Proofs.YtgpjplelgffocaaDoor
open Go.RowKit Go.Proofs.YtgpjplelgffocaaDoorW.PrintWords Limb
set_option linter.unusedVariables false
set_option linter.unusedSimpArgs false

def fewP (v : Int) : Prop := cman v < 2 ^ 54
theorem few_small {v : Int} (h : v.natAbs < 2 ^ 54) : fewP v := Nat.lt_of_le_of_lt (cman_le v) h
def FewG (G : Int → Option (Int × Int)) : Prop := ∀ z v e, z.natAbs < 2 ^ 2098 → G z = some (v, e) → fewP v
theorem few_at {n : Int} {y : Int × Int} (h : fewP y.1) : FewG (atF n y) := by
  intro z v e _ hz
  unfold atF at hz
  split at hz
  · obtain rfl := Option.some.inj hz; exact h
  · cases hz
theorem few_or3 {G0 G1 G2 : Int → Option (Int × Int)} (h0 : FewG G0) (h1 : FewG G1) (h2 : FewG G2) : FewG (or3 G0 G1 G2) := by
  intro z v e hz h
  unfold or3 at h
  cases h3 : G0 z with
  | some y => rw [h3] at h; exact h0 z v e hz (h3.trans h)
  | none =>
    rw [h3] at h
    cases h4 : G1 z with
    | some y => rw [h4] at h; exact h1 z v e hz (h4.trans h)
    | none => rw [h4] at h; exact h2 z v e hz h
theorem cman_one : cman 1 = 1 := by kernel_rfl
theorem cman_pow (k : Nat) : cman (2 ^ k) = 1 := by
  have := cman_mul 1 k
  rw [Int.one_mul] at this
  rw [this]
  exact cman_one
theorem few_pow2_0 {lo hi : Int} : FewG (pow2F 0 lo hi) := by
  intro z v e _ h
  unfold pow2F powV at h
  cases h3 : smallF (2 ^ 1074) z lo hi with
  | none => rw [h3] at h; cases h
  | some n =>
    rw [h3] at h
    obtain ⟨rfl, rfl⟩ := Prod.mk.inj (Option.some.inj h)
    unfold fewP
    rw [Int.zero_mul, Int.sub_zero, cman_pow]
    decide
theorem natAbs_pow2 (k : Nat) : ((2 : Int) ^ k).natAbs = 2 ^ k := by rw [Int.natAbs_pow]; rfl
theorem few_pow2_1 : FewG (pow2F 1 (-54) 54) := by
  intro z v e _ h
  unfold pow2F powV at h
  cases h3 : smallF (2 ^ 1074) z (-54) 54 with
  | none => rw [h3] at h; cases h
  | some n =>
    have hn := smallF_in (Int.pow_pos (by decide)) h3
    rw [h3] at h
    obtain ⟨rfl, rfl⟩ := Prod.mk.inj (Option.some.inj h)
    refine few_small ?_
    rw [Int.one_mul]
    by_cases h0 : 0 ≤ n
    · rw [show min n 0 = 0 by omega, show (-(0 : Int)).toNat = 0 from rfl]
      have h1 : (2 : Nat) ^ (n - 0).toNat ≤ 2 ^ 54 := Nat.pow_le_pow_right (by decide) (by omega)
      have h2 := natAbs_pow2 (n - 0).toNat
      have h4 : (0 : Int) < 2 ^ (n - 0).toNat := Int.pow_pos (by decide)
      generalize (2 : Int) ^ (n - 0).toNat = q at *
      generalize (2 : Nat) ^ (n - 0).toNat = r at *
      omega
    · rw [show min n 0 = n by omega, show (n - n).toNat = 0 by omega]
      have h1 : (2 : Nat) ^ (-n).toNat ≤ 2 ^ 54 := Nat.pow_le_pow_right (by decide) (by omega)
      have h2 := natAbs_pow2 (-n).toNat
      have h4 : (0 : Int) < 2 ^ (-n).toNat := Int.pow_pos (by decide)
      generalize (2 : Int) ^ (-n).toNat = q at *
      generalize (2 : Nat) ^ (-n).toNat = r at *
      omega
theorem tenI_five (k : Nat) : tenI k = 5 ^ k * 2 ^ k := by
  unfold tenI
  rw [← Int.mul_pow]; rfl
theorem few_pow10_0 : FewG (pow10F 0 0 23) := by
  intro z v e _ h
  unfold pow10F at h
  cases h3 : smallF (2 ^ 1074) z 0 23 with
  | none => rw [h3] at h; cases h
  | some n =>
    have hn := smallF_in (Int.pow_pos (by decide)) h3
    rw [h3] at h
    obtain ⟨rfl, rfl⟩ := Prod.mk.inj (Option.some.inj h)
    unfold fewP
    rw [Int.sub_zero, tenI_five, cman_mul]
    refine Nat.lt_of_le_of_lt (cman_le _) ?_
    rw [Int.natAbs_pow]
    exact Nat.lt_of_le_of_lt (Nat.pow_le_pow_right (by decide) (show n.toNat ≤ 23 by omega)) (by decide)
theorem few_pow10_1 : FewG (pow10F 1 0 16) := by
  intro z v e _ h
  unfold pow10F at h
  cases h3 : smallF (2 ^ 1074) z 0 16 with
  | none => rw [h3] at h; cases h
  | some n =>
    have hn := smallF_in (Int.pow_pos (by decide)) h3
    rw [h3] at h
    obtain ⟨rfl, rfl⟩ := Prod.mk.inj (Option.some.inj h)
    refine few_small ?_
    have h1 : (tenI n.toNat).natAbs = 10 ^ n.toNat := by unfold tenI; rw [Int.natAbs_pow]; rfl
    have h2 : (10 : Nat) ^ n.toNat ≤ 10 ^ 16 := Nat.pow_le_pow_right (by decide) (by omega)
    have h4 : (0 : Int) < tenI n.toNat := by unfold tenI; exact Int.pow_pos (by decide)
    generalize tenI n.toNat = q at *
    generalize (10 : Nat) ^ n.toNat = r at *
    have h5 : (10 : Nat) ^ 16 = 10000000000000000 := by decide
    omega
theorem few_lg2 {more : Int} (hm : more.natAbs < 2 ^ 20) : FewG (lg2F more) := by
  intro z v e hz h
  unfold lg2F log2F at h
  split at h
  · obtain ⟨rfl, rfl⟩ := Prod.mk.inj (Option.some.inj h)
    have hts := sm_le (m := 2400) (sm_add hz (sm_le (m := 2098) (sm_mul (k := 1074) hm) (by decide))) (by decide)
    have hc := cexp_small hts
    exact few_small (by omega)
  · cases h
theorem few_lg10 {more : Int} {most : Nat} (hmost : most ≤ 40) : FewG (lg10F more most) := by
  intro z v e _ h
  unfold lg10F logF at h
  cases h3 : (List.range (most + 1)).find? (fun j => decide (z + more * 2 ^ 1074 = tenI j * 2 ^ 1074)) with
  | none => rw [h3] at h; cases h
  | some j =>
    rw [h3] at h
    obtain ⟨rfl, rfl⟩ := Prod.mk.inj (Option.some.inj h)
    have hj := List.mem_of_find?_eq_some h3
    rw [List.mem_range] at hj
    exact few_small (by omega)
theorem sel_small {a b c d k : Int} (ha : a.natAbs ≤ 1) (hb : b.natAbs ≤ 1) (hc : c.natAbs ≤ 1) (hd : d.natAbs ≤ 1) : (sel a b c d k).natAbs ≤ 1 := by
  unfold sel; repeat' split
  all_goals assumption
theorem few_sine : FewG (turnF sineK) := by
  intro z v e _ h
  unfold turnF sineK at h
  split at h
  · obtain ⟨rfl, rfl⟩ := Prod.mk.inj (Option.some.inj h)
    exact few_small (Nat.lt_of_le_of_lt (sel_small (by decide) (by decide) (by decide) (by decide)) (by decide))
  · cases h
theorem few_cosine : FewG (turnF cosineK) := by
  intro z v e _ h
  unfold turnF cosineK at h
  split at h
  · obtain ⟨rfl, rfl⟩ := Prod.mk.inj (Option.some.inj h)
    exact few_small (Nat.lt_of_le_of_lt (sel_small (by decide) (by decide) (by decide) (by decide)) (by decide))
  · cases h
theorem few_tangent : FewG (turnF tangentK) := by
  intro z v e _ h
  unfold turnF tangentK at h
  generalize nearF z 1072 % 4 = k at h
  generalize z - nearF z 1072 * 2 ^ 1073 = r at h
  generalize (2 : Int) ^ 1072 = M at h
  unfold tanF at h
  repeat' split at h
  all_goals first
    | cases h; done
    | (obtain ⟨rfl, rfl⟩ := Prod.mk.inj (Option.some.inj h); exact few_small (by decide))
theorem few_all : ∀ G ∈ caseL, FewG G := by
  intro G hG
  have z0 : FewG (atF 0 (0, 0)) := few_at (few_small (by decide))
  have o1 : FewG (atF 0 (1, 0)) := few_at (few_small (by decide))
  have a1 : FewG (atF 1 (0, 0)) := few_at (few_small (by decide))
  unfold caseL at hG
  simp only [List.mem_cons, List.not_mem_nil, or_false] at hG
  rcases hG with rfl | rfl | rfl | rfl | rfl | rfl | rfl | rfl | rfl | rfl | rfl | rfl | rfl | rfl | rfl | rfl | rfl | rfl | rfl | rfl | rfl | rfl | rfl | rfl | rfl | rfl | rfl | rfl | rfl | rfl
  · exact o1
  · exact few_pow2_0
  · exact few_pow10_0
  · exact z0
  · exact few_pow2_1
  · exact few_pow10_1
  · exact a1
  · exact few_lg2 (by decide)
  · exact few_lg10 (by decide)
  · exact z0
  · exact few_lg2 (by decide)
  · exact few_lg10 (by decide)
  · exact z0
  · exact o1
  · exact z0
  · exact few_sine
  · exact few_cosine
  · exact few_tangent
  · exact z0
  · exact a1
  · exact z0
  · exact few_or3 z0 (few_at (few_small (by decide))) (few_at (few_small (by decide)))
  · exact few_or3 a1 (few_at (few_small (by decide))) (few_at (few_small (by decide)))
  · exact few_or3 z0 (few_at (few_small (by decide))) (few_at (few_small (by decide)))
  · exact z0
  · exact o1
  · exact z0
  · exact z0
  · exact a1
  · exact z0
theorem few_case {f : Nat} {z v e : Int} (hz : z.natAbs < 2 ^ 2098) (h : caseG f z = some (v, e)) : fewP v := by
  unfold caseG at h
  cases hG : caseL[f - 1]? with
  | none => rw [hG] at h; cases h
  | some G => rw [hG] at h; exact few_all G (List.mem_of_getElem? hG) z v e hz h
theorem few_ex {f x : Nat} {v e : Int} (h : exO f x = some (v, e)) : fewP v := by
  unfold exO at h
  split at h
  · exact few_case (fromV_small x) h
  · cases h
end Go.Proofs.YtgpjplelgffocaaDoor

namespace Go.Proofs.YtgpjplelgffocaaDoor
open Go.RowKit Go.Proofs.YtgpjplelgffocaaDoorW.PrintWords Limb
set_option linter.unusedVariables false
set_option linter.unusedSimpArgs false

theorem Ok.neg {z e : Int} (h : Ok z e) : Ok (-z) e := ⟨by rw [Int.natAbs_neg]; exact h.1, h.2⟩
theorem ok_small {v e : Int} (h : v.natAbs < 2 ^ 60) (h1 : -60000 ≤ e) (h2 : e ≤ 60000) : Ok v e := Ok.of 60 h (by decide) (by omega) (by omega)
def OkG (G : Int → Option (Int × Int)) : Prop := ∀ z v e, z.natAbs < 2 ^ 2098 → G z = some (v, e) → Ok v e
end Go.Proofs.YtgpjplelgffocaaDoor

namespace Go.Proofs.YtgpjplelgffocaaDoor
open Go.RowKit Go.Proofs.YtgpjplelgffocaaDoorW.PrintWords Limb
set_option linter.unusedVariables false
set_option linter.unusedSimpArgs false

theorem neg_form (z e : Int) : ∃ k : Nat, sgn (!cneg z) (cman z) * 2 ^ k = -z ∧ cexp z e = (if z = 0 then 0 else e + k) := by
  by_cases h : z = 0
  · subst h; exact ⟨0, by rw [cman_zero]; cases (!cneg 0) <;> rfl, by rw [if_pos rfl, cexp_zero]⟩
  · obtain ⟨k, h1, h2, h3⟩ := of_form (e := e) h
    refine ⟨k, ?_, by rw [if_neg h, h1]⟩
    have hp : ((2 ^ k : Nat) : Int) = (2 : Int) ^ k := by simp
    cases hb : cneg z with
    | false =>
      rw [hb] at h2
      have h4 : z = ((cman z * 2 ^ k : Nat) : Int) := h2
      show -(cman z : Int) * 2 ^ k = -z
      rw [Int.neg_mul, ← hp, ← Int.natCast_mul, ← h4]
    | true =>
      rw [hb] at h2
      have h4 : z = -((cman z * 2 ^ k : Nat) : Int) := h2
      show (cman z : Int) * 2 ^ k = -z
      rw [← hp, ← Int.natCast_mul]
      exact (Int.neg_eq_comm.1 h4.symm).symm
theorem RDy.zero_unit {w : World} {b : Nat} {v : Value} {e e' : Int} (h : RDy w b v 0 e) : RDy w b v 0 e' := by
  obtain ⟨A, n, c, rfl, hr⟩ := h
  exact ⟨A, n, c, rfl, hr⟩
set_option maxRecDepth 100000 in
set_option maxHeartbeats 8000000 in
theorem dneg_any {v : Value} {z e : Int} {w : World} (h : CDy w v z e) (o : Ok z e) :
    Calls Tryd.prog 19 #[v] w fun en w' => ∃ v', en = .returned v' ∧ RDy w' w.heap.size v' (-z) e ∧ Below w.heap.size w w' := by
  obtain ⟨b0, A, n0, c, x0, rfl⟩ := h.ex
  obtain ⟨k, hk1, hk2⟩ := neg_form z e
  obtain ⟨eb, ex, hC, hl, hc⟩ := CDy.parts h
  have QF := Aside0.mk (fun (W : World) (hb : Below w.heap.size w W) => (by
    have q := form_any (!b0) (limbs (cman z)) A n0 c x0 hl W (Kd.C_below hC hb) hc (wf_limbs _) (by rw [← hl]; exact o.len30) (by rw [ex]; exact Int.le_trans (by decide) o.lo) (by rw [ex]; exact Int.le_trans o.hi (by decide))
    rw [nv_limbs] at q
    exact q : Calls Tryd.prog 35 #[.bool (!b0), .slice A n0 c, .int .i64 x0] W fun en w' => ∃ v', en = .returned v' ∧ RDy w' W.heap.size v' (sgn (!b0) (cman z)) x0 ∧ Below W.heap.size W w'))
  have QR := Aside0.mk (fun (W : World) (b : Nat) (v : Value) (h : RDy W b v (sgn (!b0) (cman z)) x0) => (by
    rw [eb, ex, hk2] at h
    by_cases hz : z = 0
    · have h0 : sgn (!cneg z) (cman z) = 0 := by rw [hz, cman_zero]; cases (!cneg 0) <;> rfl
      rw [h0] at h
      rw [hz, Int.neg_zero]
      exact h.zero_unit
    · rw [if_neg hz] at h
      rw [← hk1]
      exact h.scale k : RDy W b v (-z) e))
  clear h o eb ex hC hl hc hk1 hk2
  go_enter Tryd.func19, Tryd.ntmps19
  have BEL : Aside0 (BelN w 2 ((w.alloc (.cells #[.bool b0, .slice A n0 c, .int .i64 x0] 27)).alloc (.cells #[.bool false, .slice none 0 0, .int .i64 0] 27))) := ⟨(((BelN.zero w).alloc _).alloc _).less (by decide)⟩
  have X0 : Aside0 (((w.alloc (.cells #[.bool b0, .slice A n0 c, .int .i64 x0] 27)).alloc (.cells #[.bool false, .slice none 0 0, .int .i64 0] 27)).heap[w.heap.size]? = some (.cells #[.bool b0, .slice A n0 c, .int .i64 x0] 27 (0, 0))) := ⟨by have h := blk_new w (.cells #[.bool b0, .slice A n0 c, .int .i64 x0] 27); exact blk_alloc (h) _⟩
  have XR : Aside0 (((w.alloc (.cells #[.bool b0, .slice A n0 c, .int .i64 x0] 27)).alloc (.cells #[.bool false, .slice none 0 0, .int .i64 0] 27)).heap[w.heap.size + 1]? = some (.cells #[.bool false, .slice none 0 0, .int .i64 0] 27 (0, 0))) := ⟨by have h := blk_new (w.alloc (.cells #[.bool b0, .slice A n0 c, .int .i64 x0] 27)) (.cells #[.bool false, .slice none 0 0, .int .i64 0] 27); rw [size_alloc'] at h; exact h⟩
  obtain ⟨q0, q0'⟩ := box_cell X0.out 0 rfl
  obtain ⟨q1, q1'⟩ := box_cell X0.out 1 rfl
  obtain ⟨q2, q2'⟩ := box_cell X0.out 2 rfl
  go_wp2_with fail
  have BL := BEL
  clear q0 q0' q1 q1' q2 q2'
  go_at_call 35
  refine (QF.out _ BEL.out.1).mono ?_
  rintro en1 w1 ⟨v1, rfl, hr, hb⟩
  replace BEL := Aside0.mk (BEL.out.next hb)
  replace X0 := Aside0.mk (blk_below X0.out hb)
  replace XR := Aside0.mk (blk_below XR.out hb)
  have P1 := Aside0.mk hr
  obtain ⟨b1, A1, n1, c1, x1, rfl⟩ := hr.ex
  clear hr hb
  go_wp2_with (((with_reducible refine gate_store (p := 2) rfl ?_); go_must (refine store_box 27 2 (.tmp 10) rfl rfl rfl (g := w.heap.size + 1) (e := 27) (.agg #[.bool b1, .slice A1 n1 c1, .int .i64 x1]) ([.bool b1, .slice A1 n1 c1, .int .i64 x1]) rfl rfl rfl info_dyad ?b1 XR.out rfl ?_; (case b1 => intro q hq; simp at hq; rcases hq with rfl | rfl | rfl <;> rfl); intro wb hbx hgx; have HX := Aside0.mk hbx; have HG := Aside0.mk hgx; clear hbx hgx)); replace P1 := Aside0.mk (P1.out.grown_box XR.out (by decide) HG.out); replace BEL := Aside0.mk (BEL.out.grown HG.out (by omega)); replace X0 := Aside0.mk (blk_grown X0.out HG.out (by omega)); replace XR := HX; clear HG)
  refine bodyPost_ret (results_dyad rfl _ _ (w.heap.size + 1) _ rfl XR.out rfl) rfl ?_
  exact ⟨_, rfl, QR.out _ _ _ (P1.out.lower (Nat.le_trans (Nat.le_add_right _ _) BL.out.2)), BEL.out.1⟩

end Go.Proofs.YtgpjplelgffocaaDoor

namespace Go.Proofs.YtgpjplelgffocaaDoor
open Go.RowKit Go.Proofs.YtgpjplelgffocaaDoorW.PrintWords Limb
set_option linter.unusedVariables false
set_option linter.unusedSimpArgs false

theorem len_of_bl {n k : Nat} (h : bl n ≤ 64 * k) : (limbs n).length ≤ k := limbs_len_le (bl_le_iff.1 h)
theorem bl_diff {y z : Int} {k : Nat} (h1 : bl y.natAbs ≤ k) (h2 : bl z.natAbs ≤ k) : bl (y - z).natAbs ≤ k + 1 := by
  have h3 : y.natAbs < 2 ^ k := bl_le_iff.1 h1
  have h4 : z.natAbs < 2 ^ k := bl_le_iff.1 h2
  refine bl_le_iff.2 ?_
  rw [Nat.pow_succ 2 k]
  omega
theorem bl_mono {a b : Nat} (h : a ≤ b) : bl a ≤ bl b := bl_le_iff.2 (Nat.lt_of_le_of_lt h (bl_lt b))
theorem Ok.diff_len {y z e : Int} (o : Ok y e) (o' : Ok z e) : (limbs (cman (y - z))).length ≤ 1073741824 := by
  have h : bl (cman (y - z)) ≤ 64 * 1025 := Nat.le_trans (bl_mono (cman_le _)) (Nat.le_trans (bl_diff o.1 o'.1) (by decide))
  exact Nat.le_trans (len_of_bl h) (by decide)
theorem top_form {z e : Int} (h : z ≠ 0) : cexp z e + bl (cman z) = e + bl z.natAbs := by
  obtain ⟨j, h1, h2, h3⟩ := of_form (e := e) h
  have h4 : z.natAbs = cman z * 2 ^ j := by
    have := congrArg Int.natAbs h2
    rwa [sgn_abs] at this
  rw [h4, bl_mul_pow (fun h0 => h (cman_eq_zero.1 h0)), h1]
  omega
theorem bl_lt_lt {a b : Nat} (h : bl a < bl b) : a < b := by
  refine Classical.byContradiction fun hc => ?_
  have h1 : bl b ≤ bl a := bl_le_iff.2 (Nat.lt_of_le_of_lt (by omega) (bl_lt a))
  omega
theorem ord_lt {y z : Int} (h : sgnI y < sgnI z) : sgnI (y - z) = -1 := by
  unfold sgnI at *
  repeat' split at h
  all_goals repeat' split
  all_goals omega
theorem ord_gt {y z : Int} (h : sgnI z < sgnI y) : sgnI (y - z) = 1 := by
  unfold sgnI at *
  repeat' split at h
  all_goals repeat' split
  all_goals omega
theorem ord_zero {y z : Int} (h : sgnI y = 0) (h' : sgnI z = 0) : sgnI (y - z) = 0 := by
  unfold sgnI at *
  repeat' split at h
  all_goals repeat' split at h'
  all_goals repeat' split
  all_goals omega
def ordS (a b : Int) : Int := if a < b then -1 else if b < a then 1 else 0
theorem ord_apart {y z : Int} (h : sgnI y = sgnI z → sgnI y = 0) : sgnI (y - z) = ordS (sgnI y) (sgnI z) := by
  unfold ordS
  by_cases h1 : sgnI y < sgnI z
  · rw [if_pos h1]; exact ord_lt h1
  · rw [if_neg h1]
    by_cases h2 : sgnI z < sgnI y
    · rw [if_pos h2]; exact ord_gt h2
    · rw [if_neg h2]
      have h3 : sgnI y = sgnI z := by omega
      exact ord_zero (h h3) (h3 ▸ h h3)
theorem sgn_ne {y s : Int} (h : sgnI y = s) (hs : s = 1 ∨ s = -1) : y ≠ 0 := by
  rintro rfl
  have : sgnI 0 = 0 := rfl
  omega
theorem ord_top {y z e s : Int} (h1 : sgnI y = s) (h2 : sgnI z = s) (hs : s = 1 ∨ s = -1) (h : cexp z e + bl (cman z) - 1 < cexp y e + bl (cman y) - 1) : sgnI (y - z) = s := by
  rw [top_form (sgn_ne h1 hs), top_form (sgn_ne h2 hs)] at h
  have h3 : z.natAbs < y.natAbs := bl_lt_lt (by omega)
  unfold sgnI at *
  repeat' split at h1
  all_goals repeat' split at h2
  all_goals repeat' split
  all_goals omega
theorem ord_swap (y z : Int) : sgnI (y - z) = -sgnI (z - y) := by
  unfold sgnI
  repeat' split
  all_goals omega
set_option maxRecDepth 100000 in
set_option maxHeartbeats 8000000 in
theorem dless_any {u v : Value} {y z e : Int} {w : World} (h : CDy w u y e) (h' : CDy w v z e) (o : Ok y e) (o' : Ok z e) :
    Calls Tryd.prog 42 #[u, v] w fun en w' => ∃ v', en = .returned v' ∧ RDy w' w.heap.size v' (y - z) e ∧ Below w.heap.size w w' := by
  obtain ⟨b0, A, n0, c, x0, rfl⟩ := h.ex
  obtain ⟨b1, A1, n1, c1, x1, rfl⟩ := h'.ex
  have QN := Aside0.mk (fun (W : World) (hb : Below w.heap.size w W) => dneg_any (h'.below hb) o')
  have QP := Aside0.mk (fun (W : World) (hb : Below w.heap.size w W) (v1 : Value) (h1 : RDy W w.heap.size v1 (-z) e) => (by
    have q := plus_dy _ v1 y (-z) e W (h.below hb) h1.c o.len28 o'.neg.len28 o.lo33 o.hi33 o'.neg.lo33 o'.neg.hi33
    rw [show y + -z = y - z from by omega] at q
    exact q : Calls Tryd.prog 64 #[.agg #[.bool b0, .slice A n0 c, .int .i64 x0], v1] W fun en w' => ∃ v', en = .returned v' ∧ RDy w' W.heap.size v' (y - z) e ∧ Below W.heap.size W w'))
  clear h h' o o'
  go_enter Tryd.func42, Tryd.ntmps42
  go_upto_region 1 with fail
  have BEL : Aside0 (BelN w 3 (((w.alloc (.cells #[.bool b0, .slice A n0 c, .int .i64 x0] 27)).alloc (.cells #[.bool b1, .slice A1 n1 c1, .int .i64 x1] 27)).alloc (.cells #[.bool false, .slice none 0 0, .int .i64 0] 27))) := ⟨((((BelN.zero w).alloc _).alloc _).alloc _).less (by decide)⟩
  have X0 : Aside0 ((((w.alloc (.cells #[.bool b0, .slice A n0 c, .int .i64 x0] 27)).alloc (.cells #[.bool b1, .slice A1 n1 c1, .int .i64 x1] 27)).alloc (.cells #[.bool false, .slice none 0 0, .int .i64 0] 27)).heap[w.heap.size]? = some (.cells #[.bool b0, .slice A n0 c, .int .i64 x0] 27 (0, 0))) := ⟨by have h := blk_new w (.cells #[.bool b0, .slice A n0 c, .int .i64 x0] 27); exact blk_alloc (blk_alloc (h) _) _⟩
  have X1 : Aside0 ((((w.alloc (.cells #[.bool b0, .slice A n0 c, .int .i64 x0] 27)).alloc (.cells #[.bool b1, .slice A1 n1 c1, .int .i64 x1] 27)).alloc (.cells #[.bool false, .slice none 0 0, .int .i64 0] 27)).heap[w.heap.size + 1]? = some (.cells #[.bool b1, .slice A1 n1 c1, .int .i64 x1] 27 (0, 0))) := ⟨by have h := blk_new (w.alloc (.cells #[.bool b0, .slice A n0 c, .int .i64 x0] 27)) (.cells #[.bool b1, .slice A1 n1 c1, .int .i64 x1] 27); rw [size_alloc'] at h; exact blk_alloc (h) _⟩
  have XR : Aside0 ((((w.alloc (.cells #[.bool b0, .slice A n0 c, .int .i64 x0] 27)).alloc (.cells #[.bool b1, .slice A1 n1 c1, .int .i64 x1] 27)).alloc (.cells #[.bool false, .slice none 0 0, .int .i64 0] 27)).heap[w.heap.size + 1 + 1]? = some (.cells #[.bool false, .slice none 0 0, .int .i64 0] 27 (0, 0))) := ⟨by have h := blk_new ((w.alloc (.cells #[.bool b0, .slice A n0 c, .int .i64 x0] 27)).alloc (.cells #[.bool b1, .slice A1 n1 c1, .int .i64 x1] 27)) (.cells #[.bool false, .slice none 0 0, .int .i64 0] 27); rw [size_alloc', size_alloc'] at h; exact h⟩
  obtain ⟨GM, hGM⟩ : ∃ G : (Nat → Prop) → (Nat → Value) → World → Prop, G = fun L v W => BelN w 3 W ∧ W.heap[w.heap.size]? = some (.cells #[.bool b0, .slice A n0 c, .int .i64 x0] 27 (0, 0)) ∧ W.heap[w.heap.size + 1]? = some (.cells #[.bool b1, .slice A1 n1 c1, .int .i64 x1] 27 (0, 0)) ∧ (L 0 → (v 0) = .agg #[.bool b0, .slice A n0 c, .int .i64 x0]) ∧ (L 1 → (v 1) = .agg #[.bool b1, .slice A1 n1 c1, .int .i64 x1]) ∧ (L 2 → RDy W w.heap.size (v 2) (-z) e) ∧ (L 3 → RDy W w.heap.size (v 3) (y - z) e) ∧ ((¬ L 4 → W.heap[w.heap.size + 1 + 1]? = some (.cells #[.bool false, .slice none 0 0, .int .i64 0] 27 (0, 0))) ∧ (L 4 → ∃ (bb : Bool) (A : Option Addr) (n c : Nat) (x : Int), (v 3) = .agg #[.bool bb, .slice A n c, .int .i64 x] ∧ W.heap[w.heap.size + 1 + 1]? = some (.cells #[.bool bb, .slice A n c, .int .i64 x] 27 (0, 0)))) := ⟨_, rfl⟩
  refine wp_region_slotsV [5, 6, 7, 8] (by kernel_rfl) (by kernel_rfl) (G := GM) ?h0M ?hstepM ?hendM
  case h0M =>
    intro v; rw [hGM]
    exact ⟨BEL.out.next (below_drew (Below.refl _ _)), blk_drew X0.out, blk_drew X1.out, fun h => h.elim, fun h => h.elim, fun h => h.elim, fun h => h.elim, ⟨fun _ => blk_drew XR.out, fun h => h.elim⟩⟩
  case hstepM =>
    intro k o ho v W L hGv hnk haft hcl K hK
    rw [hGM] at hGv
    obtain ⟨hB, hb0, hb1, f0, f1, f2, f3, f4⟩ := hGv
    rcases k with _ | _ | _ | _ | _ | k
    all_goals first
      | (cases ho; done)
      | (obtain rfl := (Option.some.inj ho).symm
         clear ho
         rw [if_pos (by rfl)]
         simp only [setAll, List.setIfInBounds_toArray, List.set_cons_zero, List.set_cons_succ, List.set_nil, List.getElem_toArray, List.getElem_cons_zero, List.getElem_cons_succ, Nat.reduceAdd] at haft hK ⊢)
    case zero =>
      have cc0 := (box_cell (v := .bool b0) hb0 0 rfl).1
      have cc1 := (box_cell (v := .slice A n0 c) hb0 1 rfl).1
      have cc2 := (box_cell (v := .int .i64 x0) hb0 2 rfl).1
      have hb := Below.refl W.heap.size W
      have key := hK.out (.agg #[.bool b0, .slice A n0 c, .int .i64 x0]) W (by rw [hGM]; exact ⟨hB.next hb, blk_below hb0 hb, blk_below hb1 hb, fun _ => by rw [upd_eq], (kv f1 (by decide)), (fun h => by rw [upd_ne v _ (by decide)]; exact (f2 (h.resolve_right (by decide))).below hb), (fun h => by rw [upd_ne v _ (by decide)]; exact (f3 (h.resolve_right (by decide))).below hb), (⟨fun h2 => blk_below (f4.1 (fun h3 => h2 (.inl h3))) hb, fun h2 => by rw [upd_ne v _ (by decide)]; obtain ⟨bb, A, n, c, x, y1, y2⟩ := f4.2 (h2.resolve_right (by decide)); exact ⟨bb, A, n, c, x, y1, blk_below y2 hb⟩⟩)⟩)
      clear hb0 hb1 f0 f1 f2 f3 f4 hb hK
      go_simp
      simpa [upd] using key
    case succ.zero =>
      have cc0 := (box_cell (v := .bool b1) hb1 0 rfl).1
      have cc1 := (box_cell (v := .slice A1 n1 c1) hb1 1 rfl).1
      have cc2 := (box_cell (v := .int .i64 x1) hb1 2 rfl).1
      have hb := Below.refl W.heap.size W
      have key := hK.out (.agg #[.bool b1, .slice A1 n1 c1, .int .i64 x1]) W (by rw [hGM]; exact ⟨hB.next hb, blk_below hb0 hb, blk_below hb1 hb, (kv f0 (by decide)), fun _ => by rw [upd_eq], (fun h => by rw [upd_ne v _ (by decide)]; exact (f2 (h.resolve_right (by decide))).below hb), (fun h => by rw [upd_ne v _ (by decide)]; exact (f3 (h.resolve_right (by decide))).below hb), (⟨fun h2 => blk_below (f4.1 (fun h3 => h2 (.inl h3))) hb, fun h2 => by rw [upd_ne v _ (by decide)]; obtain ⟨bb, A, n, c, x, y1, y2⟩ := f4.2 (h2.resolve_right (by decide)); exact ⟨bb, A, n, c, x, y1, blk_below y2 hb⟩⟩)⟩)
      clear hb0 hb1 f0 f1 f2 f3 f4 hb hK
      go_simp
      simpa [upd] using key
    case succ.succ.zero =>
      have d1 := f1 (haft { on := 1, ground := .data } (by simp) rfl)
      have D1 := d1
      have HALL := Aside0.mk (And.intro hK (And.intro hB (And.intro hb0 ( And.intro hb1 ( And.intro f0 ( And.intro f1 ( And.intro f2 ( And.intro f3 ( And.intro f4 (True.intro))))))))))
      clear hK hb0 hb1 f0 f1 f2 f3 f4
      go_simp
      go_at_call 19
      refine (QN.out _ hB.1).mono ?_
      rintro en w4 ⟨v1, rfl, hr, hb⟩
      obtain ⟨hK, hB, hb0, hb1, f0, f1, f2, f3, f4, _⟩ := HALL.out
      have key := hK.out (v1) w4 (by rw [hGM]; exact ⟨hB.next hb, blk_below hb0 hb, blk_below hb1 hb, (kv f0 (by decide)), (kv f1 (by decide)), fun _ => by rw [upd_eq]; exact hr.lower (Nat.le_trans (Nat.le_add_right _ _) hB.2), (fun h => by rw [upd_ne v _ (by decide)]; exact (f3 (h.resolve_right (by decide))).below hb), (⟨fun h2 => blk_below (f4.1 (fun h3 => h2 (.inl h3))) hb, fun h2 => by rw [upd_ne v _ (by decide)]; obtain ⟨bb, A, n, c, x, y1, y2⟩ := f4.2 (h2.resolve_right (by decide)); exact ⟨bb, A, n, c, x, y1, blk_below y2 hb⟩⟩)⟩)
      clear hb0 hb1 f0 f1 f2 f3 f4 hK HALL
      simpa [upd, D1] using key
    case succ.succ.succ.zero =>
      have hns4 : ¬ L 4 := fun hs => hnk (hcl 4 _ rfl hs { on := 3, ground := .data } (by simp) rfl)
      have d0 := f0 (haft { on := 0, ground := .data } (by simp) rfl)
      have D0 := d0
      have d2 := f2 (haft { on := 2, ground := .data } (by simp) rfl)
      have D2 := d2
      have HALL := Aside0.mk (And.intro hK (And.intro hB (And.intro hb0 ( And.intro hb1 ( And.intro f0 ( And.intro f1 ( And.intro f2 ( And.intro f3 ( And.intro f4 (True.intro))))))))))
      clear hK hb0 hb1 f0 f1 f2 f3 f4
      go_simp
      go_at_call 64
      refine (QP.out _ hB.1 _ d2).mono ?_
      rintro en w4 ⟨v1, rfl, hr, hb⟩
      obtain ⟨hK, hB, hb0, hb1, f0, f1, f2, f3, f4, _⟩ := HALL.out
      have key := hK.out (v1) w4 (by rw [hGM]; exact ⟨hB.next hb, blk_below hb0 hb, blk_below hb1 hb, (kv f0 (by decide)), (kv f1 (by decide)), (fun h => by rw [upd_ne v _ (by decide)]; exact (f2 (h.resolve_right (by decide))).below hb), fun _ => by rw [upd_eq]; exact hr.lower (Nat.le_trans (Nat.le_add_right _ _) hB.2), (⟨fun h2 => blk_below (f4.1 (fun h3 => h2 (.inl h3))) hb, fun h2 => (hns4 (h2.resolve_right (by decide))).elim⟩)⟩)
      clear hb0 hb1 f0 f1 f2 f3 f4 hK HALL
      simpa [upd, D0] using key
    case succ.succ.succ.succ.zero =>
      have hgb := f4.1 hnk
      have ds := f3 (haft { on := 3, ground := .data } (by simp) rfl)
      obtain ⟨bb, A, n, c, x, es⟩ := ds.ex
      refine wp_store_box 27 4 (.tmp 8) rfl rfl (g := w.heap.size + 1 + 1) (e := 27) (v 3) [.bool bb, .slice A n c, .int .i64 x] (by first | rfl | exact rfl) rfl (by rw [es]; rfl) info_dyad ?_ hgb rfl ?_
      · intro q hq; simp at hq; rcases hq with rfl | rfl | rfl <;> rfl
      · intro w1 hw1 hg
        have key := hK.out undef w1 (by rw [hGM]; exact ⟨hB.grown hg (by omega), blk_grown hb0 hg (by omega), blk_grown hb1 hg (by omega), (kv f0 (by decide)), (kv f1 (by decide)), (fun h => by rw [upd_ne v _ (by decide)]; exact (f2 (h.resolve_right (by decide))).grown_box hgb (by decide) hg), (fun h => by rw [upd_ne v _ (by decide)]; exact (f3 (h.resolve_right (by decide))).grown_box hgb (by decide) hg), ⟨fun h => (h (.inr rfl)).elim, fun _ => by rw [upd_ne v _ (by decide)]; exact ⟨bb, A, n, c, x, es, hw1⟩⟩⟩)
        clear hb0 hb1 f0 f1 f2 f3 f4 hK
        simpa [upd] using key
  case hendM =>
    intro v W L0 hall hGv
    rw [hGM] at hGv
    obtain ⟨hB, hb0, hb1, f0, f1, f2, f3, f4⟩ := hGv
    have BEL := Aside0.mk hB
    have d3 := f3 (hall 3 (by decide))
    obtain ⟨b7, A7, n7, c7, x7, p3, hx7⟩ := f4.2 (hall 4 (by decide))
    rw [p3] at d3
    have P3 := Aside0.mk d3
    have X3 := Aside0.mk hx7
    clear hall f0 f1 f2 f3 f4 hB hb0 hb1 d3 hx7
    go_wp2
    refine bodyPost_ret (results_dyad rfl _ _ (w.heap.size + 1 + 1) _ rfl X3.out rfl) rfl ?_
    exact ⟨_, rfl, P3.out, BEL.out.1⟩

set_option maxRecDepth 100000 in
set_option maxHeartbeats 8000000 in
theorem dorder_apart {u v : Value} {y z e : Int} {w : World} (h : CDy w u y e) (h' : CDy w v z e) (o : Ok y e) (o' : Ok z e) (hne : sgnI y = sgnI z → sgnI y = 0) :
    Calls Tryd.prog 16 #[u, v] w fun en w' => en = .returned (.int .i64 (sgnI (y - z))) ∧ Below w.heap.size w w' := by
  obtain ⟨b0, A, n0, c, x0, rfl⟩ := h.ex
  obtain ⟨b1, A1, n1, c1, x1, rfl⟩ := h'.ex
  obtain ⟨sy, hsy⟩ : ∃ q, q = sgnI y := ⟨_, rfl⟩
  obtain ⟨sz, hsz⟩ : ∃ q, q = sgnI z := ⟨_, rfl⟩
  obtain ⟨sd, hsd⟩ : ∃ q, q = sgnI (y - z) := ⟨_, rfl⟩
  have hy := sgnI_cases y
  have hz := sgnI_cases z
  have QS1 := Aside0.mk (fun (W : World) (hb : Below w.heap.size w W) => sign_any' _ y e _ (h.below hb) o.len30)
  have QS2 := Aside0.mk (fun (W : World) (hb : Below w.heap.size w W) => sign_any' _ z e _ (h'.below hb) o'.len30)
  have HS := Aside0.mk (show sd = ordS sy sz by rw [hsd, hsy, hsz]; exact ord_apart hne)
  rw [← hsd]
  rw [← hsy] at hy QS1 hne
  rw [← hsz] at hz QS2 hne
  clear h h' o o' hsy hsz hsd
  go_enter Tryd.func16, Tryd.ntmps16
  go_upto_region 1 with fail
  have BEL : Aside0 (BelN w 2 ((w.alloc (.cells #[.bool b0, .slice A n0 c, .int .i64 x0] 27)).alloc (.cells #[.bool b1, .slice A1 n1 c1, .int .i64 x1] 27))) := ⟨(((BelN.zero w).alloc _).alloc _).less (by decide)⟩
  have X0 : Aside0 (((w.alloc (.cells #[.bool b0, .slice A n0 c, .int .i64 x0] 27)).alloc (.cells #[.bool b1, .slice A1 n1 c1, .int .i64 x1] 27)).heap[w.heap.size]? = some (.cells #[.bool b0, .slice A n0 c, .int .i64 x0] 27 (0, 0))) := ⟨by have h := blk_new w (.cells #[.bool b0, .slice A n0 c, .int .i64 x0] 27); exact blk_alloc (h) _⟩
  have X1 : Aside0 (((w.alloc (.cells #[.bool b0, .slice A n0 c, .int .i64 x0] 27)).alloc (.cells #[.bool b1, .slice A1 n1 c1, .int .i64 x1] 27)).heap[w.heap.size + 1]? = some (.cells #[.bool b1, .slice A1 n1 c1, .int .i64 x1] 27 (0, 0))) := ⟨by have h := blk_new (w.alloc (.cells #[.bool b0, .slice A n0 c, .int .i64 x0] 27)) (.cells #[.bool b1, .slice A1 n1 c1, .int .i64 x1] 27); rw [size_alloc'] at h; exact h⟩
  obtain ⟨TM, hTM⟩ : ∃ T : List (Option Value), T = [some (.agg #[.bool b0, .slice A n0 c, .int .i64 x0]), none, some (.agg #[.bool b1, .slice A1 n1 c1, .int .i64 x1]), none, some (.int .i64 sy), some (.int .i64 sz)] := ⟨_, rfl⟩
  obtain ⟨GM, hGM⟩ : ∃ G : (Nat → Prop) → (Nat → Value) → World → Prop, G = fun L v W => BelN w 2 W ∧ W.heap[w.heap.size]? = some (.cells #[.bool b0, .slice A n0 c, .int .i64 x0] 27 (0, 0)) ∧ W.heap[w.heap.size + 1]? = some (.cells #[.bool b1, .slice A1 n1 c1, .int .i64 x1] 27 (0, 0)) ∧ (∀ j c, L j → TM[j]? = some (some c) → v j = c) ∧ (L 1 → (v 1) = .int .i64 sy) ∧ (L 3 → (v 3) = .int .i64 sz) := ⟨_, rfl⟩
  refine wp_region_slotsV [9, 10, 11, 12, 5, 6] (by kernel_rfl) (by kernel_rfl) (G := GM) ?h0M ?hstepM ?hendM
  case h0M =>
    intro v; rw [hGM]
    exact ⟨BEL.out.next (below_drew (Below.refl _ _)), blk_drew X0.out, blk_drew X1.out, fun _ _ h => h.elim, fun h => h.elim, fun h => h.elim⟩
  case hstepM =>
    intro k o ho v W L hGv hnk haft hcl K hK
    rw [hGM] at hGv
    obtain ⟨hB, hb0, hb1, fT, f1, f3⟩ := hGv
    rcases k with _ | _ | _ | _ | _ | _ | k
    all_goals first
      | (cases ho; done)
      | (obtain rfl := (Option.some.inj ho).symm
         clear ho
         rw [if_pos (by rfl)]
         simp only [setAll, List.setIfInBounds_toArray, List.set_cons_zero, List.set_cons_succ, List.set_nil, List.getElem_toArray, List.getElem_cons_zero, List.getElem_cons_succ, Nat.reduceAdd] at haft hK ⊢)
    case zero =>
      have cc0 := (box_cell (v := .bool b0) hb0 0 rfl).1
      have cc1 := (box_cell (v := .slice A n0 c) hb0 1 rfl).1
      have cc2 := (box_cell (v := .int .i64 x0) hb0 2 rfl).1
      have hb := Below.refl W.heap.size W
      have key := hK.out (.agg #[.bool b0, .slice A n0 c, .int .i64 x0]) W (by rw [hGM]; exact ⟨hB.next hb, blk_below hb0 hb, blk_below hb1 hb, tabs_step fT (fun c h => by rw [hTM] at h; exact Option.some.inj (Option.some.inj h)), (kv f1 (by decide)), (kv f3 (by decide))⟩)
      clear hb0 hb1 fT f1 f3 hK hb
      go_simp
      simpa [upd] using key
    case succ.zero =>
      have d0 := fT 0 _ (haft { on := 0, ground := .data } (by simp) rfl) (by rw [hTM]; rfl)
      have HALL := Aside0.mk (And.intro hK (And.intro hB (And.intro hb0 ( And.intro hb1 ( And.intro fT ( And.intro f1 ( And.intro f3 (True.intro))))))))
      clear hK hb0 hb1 fT f1 f3
      go_simp
      go_at_call 40
      refine (QS1.out _ hB.1).mono ?_
      rintro en w4 ⟨rfl, hb⟩
      obtain ⟨hK, hB, hb0, hb1, fT, f1, f3, _⟩ := HALL.out
      have key := hK.out (.int .i64 sy) w4 (by rw [hGM]; exact ⟨hB.next hb, blk_below hb0 hb, blk_below hb1 hb, tabs_step fT (fun c h => by rw [hTM] at h; cases h), fun _ => by rw [upd_eq], (kv f3 (by decide))⟩)
      clear hb0 hb1 fT f1 f3 hK HALL
      simpa [upd, d0] using key
    case succ.succ.zero =>
      have cc0 := (box_cell (v := .bool b1) hb1 0 rfl).1
      have cc1 := (box_cell (v := .slice A1 n1 c1) hb1 1 rfl).1
      have cc2 := (box_cell (v := .int .i64 x1) hb1 2 rfl).1
      have hb := Below.refl W.heap.size W
      have key := hK.out (.agg #[.bool b1, .slice A1 n1 c1, .int .i64 x1]) W (by rw [hGM]; exact ⟨hB.next hb, blk_below hb0 hb, blk_below hb1 hb, tabs_step fT (fun c h => by rw [hTM] at h; exact Option.some.inj (Option.some.inj h)), (kv f1 (by decide)), (kv f3 (by decide))⟩)
      clear hb0 hb1 fT f1 f3 hK hb
      go_simp
      simpa [upd] using key
    case succ.succ.succ.zero =>
      have d2 := fT 2 _ (haft { on := 2, ground := .data } (by simp) rfl) (by rw [hTM]; rfl)
      have HALL := Aside0.mk (And.intro hK (And.intro hB (And.intro hb0 ( And.intro hb1 ( And.intro fT ( And.intro f1 ( And.intro f3 (True.intro))))))))
      clear hK hb0 hb1 fT f1 f3
      go_simp
      go_at_call 40
      refine (QS2.out _ hB.1).mono ?_
      rintro en w4 ⟨rfl, hb⟩
      obtain ⟨hK, hB, hb0, hb1, fT, f1, f3, _⟩ := HALL.out
      have key := hK.out (.int .i64 sz) w4 (by rw [hGM]; exact ⟨hB.next hb, blk_below hb0 hb, blk_below hb1 hb, tabs_step fT (fun c h => by rw [hTM] at h; cases h), (kv f1 (by decide)), fun _ => by rw [upd_eq]⟩)
      clear hb0 hb1 fT f1 f3 hK HALL
      simpa [upd, d2] using key
    case succ.succ.succ.succ.zero =>
      have d1 := f1 (haft { on := 1, ground := .data } (by simp) rfl)
      have hb := Below.refl W.heap.size W
      have key := hK.out (.int .i64 sy) W (by rw [hGM]; exact ⟨hB.next hb, blk_below hb0 hb, blk_below hb1 hb, tabs_step fT (fun c h => by rw [hTM] at h; exact Option.some.inj (Option.some.inj h)), (kv f1 (by decide)), (kv f3 (by decide))⟩)
      clear hb0 hb1 fT f1 f3 hK hb
      go_simp
      simpa [upd, d1] using key
    case succ.succ.succ.succ.succ.zero =>
      have d3 := f3 (haft { on := 3, ground := .data } (by simp) rfl)
      have hb := Below.refl W.heap.size W
      have key := hK.out (.int .i64 sz) W (by rw [hGM]; exact ⟨hB.next hb, blk_below hb0 hb, blk_below hb1 hb, tabs_step fT (fun c h => by rw [hTM] at h; exact Option.some.inj (Option.some.inj h)), (kv f1 (by decide)), (kv f3 (by decide))⟩)
      clear hb0 hb1 fT f1 f3 hK hb
      go_simp
      simpa [upd, d3] using key
  case hendM =>
    intro v W L0 hall hGv
    rw [hGM] at hGv
    obtain ⟨hB, hb0, hb1, fT, f1, f3⟩ := hGv
    have d4 := fT 4 _ (hall 4 (by decide)) (by rw [hTM]; rfl)
    have d5 := fT 5 _ (hall 5 (by decide)) (by rw [hTM]; rfl)
    replace BEL := Aside0.mk hB
    replace X0 := Aside0.mk hb0
    replace X1 := Aside0.mk hb1
    clear hall hB fT f1 f3 hb0 hb1 hTM hGM TM GM
    simp only [setAll, List.setIfInBounds_toArray, List.set_cons_zero, List.set_cons_succ, Nat.reduceAdd, d4, d5]
    clear d4 d5
    rcases hy with rfl | rfl | rfl
    all_goals rcases hz with rfl | rfl | rfl
    all_goals first
      | (exfalso; exact absurd (hne rfl) (by decide))
      | (have hq := HS.out
         subst hq
         clear hne
         go_wp2
         go_ret
         exact ⟨rfl, BEL.out.1⟩)

set_option maxRecDepth 100000 in
set_option maxHeartbeats 8000000 in
theorem dorder_level {u v : Value} {y z e s : Int} {w : World} (h : CDy w u y e) (h' : CDy w v z e) (o : Ok y e) (o' : Ok z e) (hs : s = 1 ∨ s = -1) (hy : sgnI y = s) (hz : sgnI z = s) :
    Calls Tryd.prog 16 #[u, v] w fun en w' => en = .returned (.int .i64 (sgnI (y - z))) ∧ Below w.heap.size w w' := by
  obtain ⟨b0, A, n0, c, x0, rfl⟩ := h.ex
  obtain ⟨b1, A1, n1, c1, x1, rfl⟩ := h'.ex
  obtain ⟨sd, hsd⟩ : ∃ q, q = sgnI (y - z) := ⟨_, rfl⟩
  obtain ⟨ty, hty⟩ : ∃ q, q = cexp y e + bl (cman y) - 1 := ⟨_, rfl⟩
  obtain ⟨tz, htz⟩ : ∃ q, q = cexp z e + bl (cman z) - 1 := ⟨_, rfl⟩
  have QS1 := Aside0.mk (fun (W : World) (hb : Below w.heap.size w W) => sign_any' _ y e _ (h.below hb) o.len30)
  have QS2 := Aside0.mk (fun (W : World) (hb : Below w.heap.size w W) => sign_any' _ z e _ (h'.below hb) o'.len30)
  have QT1 := Aside0.mk (fun (W : World) (hb : Below w.heap.size w W) => top_any _ y e _ (h.below hb) o.len30 (Int.le_trans (by decide) o.lo) (Int.le_trans o.hi (by decide)))
  have QT2 := Aside0.mk (fun (W : World) (hb : Below w.heap.size w W) => top_any _ z e _ (h'.below hb) o'.len30 (Int.le_trans (by decide) o'.lo) (Int.le_trans o'.hi (by decide)))
  have QL := Aside0.mk (fun (W : World) (hb : Below w.heap.size w W) => dless_any (h.below hb) (h'.below hb) o o')
  have QD := Aside0.mk (fun (W : World) (b : Nat) (v1 : Value) (h1 : RDy W b v1 (y - z) e) => sign_any' v1 (y - z) e W h1.c (o.diff_len o'))
  have HL := Aside0.mk (fun (h : ty < tz) => (by rw [hsd, ord_swap]; rw [hty, htz] at h; rw [ord_top hz hy hs h] : sd = -s))
  have HG := Aside0.mk (fun (h : tz < ty) => (by rw [hsd]; rw [hty, htz] at h; exact ord_top hy hz hs h : sd = s))
  rw [← hsd] at QD ⊢
  rw [← hty] at QT1
  rw [← htz] at QT2
  rw [hy] at QS1
  rw [hz] at QS2
  generalize y - z = d at *
  clear h h' o o' hy hz hsd hty htz
  go_enter Tryd.func16, Tryd.ntmps16
  go_upto_region 1 with fail
  have BEL : Aside0 (BelN w 2 ((w.alloc (.cells #[.bool b0, .slice A n0 c, .int .i64 x0] 27)).alloc (.cells #[.bool b1, .slice A1 n1 c1, .int .i64 x1] 27))) := ⟨(((BelN.zero w).alloc _).alloc _).less (by decide)⟩
  have X0 : Aside0 (((w.alloc (.cells #[.bool b0, .slice A n0 c, .int .i64 x0] 27)).alloc (.cells #[.bool b1, .slice A1 n1 c1, .int .i64 x1] 27)).heap[w.heap.size]? = some (.cells #[.bool b0, .slice A n0 c, .int .i64 x0] 27 (0, 0))) := ⟨by have h := blk_new w (.cells #[.bool b0, .slice A n0 c, .int .i64 x0] 27); exact blk_alloc (h) _⟩
  have X1 : Aside0 (((w.alloc (.cells #[.bool b0, .slice A n0 c, .int .i64 x0] 27)).alloc (.cells #[.bool b1, .slice A1 n1 c1, .int .i64 x1] 27)).heap[w.heap.size + 1]? = some (.cells #[.bool b1, .slice A1 n1 c1, .int .i64 x1] 27 (0, 0))) := ⟨by have h := blk_new (w.alloc (.cells #[.bool b0, .slice A n0 c, .int .i64 x0] 27)) (.cells #[.bool b1, .slice A1 n1 c1, .int .i64 x1] 27); rw [size_alloc'] at h; exact h⟩
  obtain ⟨TM, hTM⟩ : ∃ T : List (Option Value), T = [some (.agg #[.bool b0, .slice A n0 c, .int .i64 x0]), none, some (.agg #[.bool b1, .slice A1 n1 c1, .int .i64 x1]), none, some (.int .i64 s), some (.int .i64 s)] := ⟨_, rfl⟩
  obtain ⟨GM, hGM⟩ : ∃ G : (Nat → Prop) → (Nat → Value) → World → Prop, G = fun L v W => BelN w 2 W ∧ W.heap[w.heap.size]? = some (.cells #[.bool b0, .slice A n0 c, .int .i64 x0] 27 (0, 0)) ∧ W.heap[w.heap.size + 1]? = some (.cells #[.bool b1, .slice A1 n1 c1, .int .i64 x1] 27 (0, 0)) ∧ (∀ j c, L j → TM[j]? = some (some c) → v j = c) ∧ (L 1 → (v 1) = .int .i64 s) ∧ (L 3 → (v 3) = .int .i64 s) := ⟨_, rfl⟩
  refine wp_region_slotsV [9, 10, 11, 12, 5, 6] (by kernel_rfl) (by kernel_rfl) (G := GM) ?h0M ?hstepM ?hendM
  case h0M =>
    intro v; rw [hGM]
    exact ⟨BEL.out.next (below_drew (Below.refl _ _)), blk_drew X0.out, blk_drew X1.out, fun _ _ h => h.elim, fun h => h.elim, fun h => h.elim⟩
  case hstepM =>
    intro k o ho v W L hGv hnk haft hcl K hK
    rw [hGM] at hGv
    obtain ⟨hB, hb0, hb1, fT, f1, f3⟩ := hGv
    rcases k with _ | _ | _ | _ | _ | _ | k
    all_goals first
      | (cases ho; done)
      | (obtain rfl := (Option.some.inj ho).symm
         clear ho
         rw [if_pos (by rfl)]
         simp only [setAll, List.setIfInBounds_toArray, List.set_cons_zero, List.set_cons_succ, List.set_nil, List.getElem_toArray, List.getElem_cons_zero, List.getElem_cons_succ, Nat.reduceAdd] at haft hK ⊢)
    case zero =>
      have cc0 := (box_cell (v := .bool b0) hb0 0 rfl).1
      have cc1 := (box_cell (v := .slice A n0 c) hb0 1 rfl).1
      have cc2 := (box_cell (v := .int .i64 x0) hb0 2 rfl).1
      have hb := Below.refl W.heap.size W
      have key := hK.out (.agg #[.bool b0, .slice A n0 c, .int .i64 x0]) W (by rw [hGM]; exact ⟨hB.next hb, blk_below hb0 hb, blk_below hb1 hb, tabs_step fT (fun c h => by rw [hTM] at h; exact Option.some.inj (Option.some.inj h)), (kv f1 (by decide)), (kv f3 (by decide))⟩)
      clear hb0 hb1 fT f1 f3 hK hb
      go_simp
      simpa [upd] using key
    case succ.zero =>
      have d0 := fT 0 _ (haft { on := 0, ground := .data } (by simp) rfl) (by rw [hTM]; rfl)
      have HALL := Aside0.mk (And.intro hK (And.intro hB (And.intro hb0 ( And.intro hb1 ( And.intro fT ( And.intro f1 ( And.intro f3 (True.intro))))))))
      clear hK hb0 hb1 fT f1 f3
      go_simp
      go_at_call 40
      refine (QS1.out _ hB.1).mono ?_
      rintro en w4 ⟨rfl, hb⟩
      obtain ⟨hK, hB, hb0, hb1, fT, f1, f3, _⟩ := HALL.out
      have key := hK.out (.int .i64 s) w4 (by rw [hGM]; exact ⟨hB.next hb, blk_below hb0 hb, blk_below hb1 hb, tabs_step fT (fun c h => by rw [hTM] at h; cases h), fun _ => by rw [upd_eq], (kv f3 (by decide))⟩)
      clear hb0 hb1 fT f1 f3 hK HALL
      simpa [upd, d0] using key
    case succ.succ.zero =>
      have cc0 := (box_cell (v := .bool b1) hb1 0 rfl).1
      have cc1 := (box_cell (v := .slice A1 n1 c1) hb1 1 rfl).1
      have cc2 := (box_cell (v := .int .i64 x1) hb1 2 rfl).1
      have hb := Below.refl W.heap.size W
      have key := hK.out (.agg #[.bool b1, .slice A1 n1 c1, .int .i64 x1]) W (by rw [hGM]; exact ⟨hB.next hb, blk_below hb0 hb, blk_below hb1 hb, tabs_step fT (fun c h => by rw [hTM] at h; exact Option.some.inj (Option.some.inj h)), (kv f1 (by decide)), (kv f3 (by decide))⟩)
      clear hb0 hb1 fT f1 f3 hK hb
      go_simp
      simpa [upd] using key
    case succ.succ.succ.zero =>
      have d2 := fT 2 _ (haft { on := 2, ground := .data } (by simp) rfl) (by rw [hTM]; rfl)
      have HALL := Aside0.mk (And.intro hK (And.intro hB (And.intro hb0 ( And.intro hb1 ( And.intro fT ( And.intro f1 ( And.intro f3 (True.intro))))))))
      clear hK hb0 hb1 fT f1 f3
      go_simp
      go_at_call 40
      refine (QS2.out _ hB.1).mono ?_
      rintro en w4 ⟨rfl, hb⟩
      obtain ⟨hK, hB, hb0, hb1, fT, f1, f3, _⟩ := HALL.out
      have key := hK.out (.int .i64 s) w4 (by rw [hGM]; exact ⟨hB.next hb, blk_below hb0 hb, blk_below hb1 hb, tabs_step fT (fun c h => by rw [hTM] at h; cases h), (kv f1 (by decide)), fun _ => by rw [upd_eq]⟩)
      clear hb0 hb1 fT f1 f3 hK HALL
      simpa [upd, d2] using key
    case succ.succ.succ.succ.zero =>
      have d1 := f1 (haft { on := 1, ground := .data } (by simp) rfl)
      have hb := Below.refl W.heap.size W
      have key := hK.out (.int .i64 s) W (by rw [hGM]; exact ⟨hB.next hb, blk_below hb0 hb, blk_below hb1 hb, tabs_step fT (fun c h => by rw [hTM] at h; exact Option.some.inj (Option.some.inj h)), (kv f1 (by decide)), (kv f3 (by decide))⟩)
      clear hb0 hb1 fT f1 f3 hK hb
      go_simp
      simpa [upd, d1] using key
    case succ.succ.succ.succ.succ.zero =>
      have d3 := f3 (haft { on := 3, ground := .data } (by simp) rfl)
      have hb := Below.refl W.heap.size W
      have key := hK.out (.int .i64 s) W (by rw [hGM]; exact ⟨hB.next hb, blk_below hb0 hb, blk_below hb1 hb, tabs_step fT (fun c h => by rw [hTM] at h; exact Option.some.inj (Option.some.inj h)), (kv f1 (by decide)), (kv f3 (by decide))⟩)
      clear hb0 hb1 fT f1 f3 hK hb
      go_simp
      simpa [upd, d3] using key
  case hendM =>
    intro v W L0 hall hGv
    rw [hGM] at hGv
    obtain ⟨hB, hb0, hb1, fT, f1, f3⟩ := hGv
    have d4 := fT 4 _ (hall 4 (by decide)) (by rw [hTM]; rfl)
    have d5 := fT 5 _ (hall 5 (by decide)) (by rw [hTM]; rfl)
    replace BEL := Aside0.mk hB
    replace X0 := Aside0.mk hb0
    replace X1 := Aside0.mk hb1
    clear hall hB fT f1 f3 hb0 hb1 hTM hGM TM GM
    simp only [setAll, List.setIfInBounds_toArray, List.set_cons_zero, List.set_cons_succ, Nat.reduceAdd, d4, d5]
    clear d4 d5
    rcases hs with rfl | rfl
    all_goals (
      go_upto_region 8 with fail
      obtain ⟨TN, hTN⟩ : ∃ T : List (Option Value), T = [some (.agg #[.bool b0, .slice A n0 c, .int .i64 x0]), none, some (.agg #[.bool b1, .slice A1 n1 c1, .int .i64 x1]), none, some (.int .i64 ty), some (.int .i64 tz)] := ⟨_, rfl⟩
      obtain ⟨GN, hGN⟩ : ∃ G : (Nat → Prop) → (Nat → Value) → World → Prop, G = fun L v W => BelN w 2 W ∧ W.heap[w.heap.size]? = some (.cells #[.bool b0, .slice A n0 c, .int .i64 x0] 27 (0, 0)) ∧ W.heap[w.heap.size + 1]? = some (.cells #[.bool b1, .slice A1 n1 c1, .int .i64 x1] 27 (0, 0)) ∧ (∀ j c, L j → TN[j]? = some (some c) → v j = c) ∧ (L 1 → (v 1) = .int .i64 ty) ∧ (L 3 → (v 3) = .int .i64 tz) := ⟨_, rfl⟩
      refine wp_region_slotsV [24, 25, 26, 27, 7, 8] (by kernel_rfl) (by kernel_rfl) (G := GN) ?h0N ?hstepN ?hendN
      case h0N =>
        intro v; rw [hGN]
        exact ⟨BEL.out.next (below_drew (Below.refl _ _)), blk_drew X0.out, blk_drew X1.out, fun _ _ h => h.elim, fun h => h.elim, fun h => h.elim⟩
      case hstepN =>
        intro k o ho v W L hGv hnk haft hcl K hK
        rw [hGN] at hGv
        obtain ⟨hB, hb0, hb1, fT, f1, f3⟩ := hGv
        rcases k with _ | _ | _ | _ | _ | _ | k
        all_goals first
          | (cases ho; done)
          | (obtain rfl := (Option.some.inj ho).symm
             clear ho
             rw [if_pos (by rfl)]
             simp only [setAll, List.setIfInBounds_toArray, List.set_cons_zero, List.set_cons_succ, List.set_nil, List.getElem_toArray, List.getElem_cons_zero, List.getElem_cons_succ, Nat.reduceAdd] at haft hK ⊢)
        case zero =>
          have cc0 := (box_cell (v := .bool b0) hb0 0 rfl).1
          have cc1 := (box_cell (v := .slice A n0 c) hb0 1 rfl).1
          have cc2 := (box_cell (v := .int .i64 x0) hb0 2 rfl).1
          have hb := Below.refl W.heap.size W
          have key := hK.out (.agg #[.bool b0, .slice A n0 c, .int .i64 x0]) W (by rw [hGN]; exact ⟨hB.next hb, blk_below hb0 hb, blk_below hb1 hb, tabs_step fT (fun c h => by rw [hTN] at h; exact Option.some.inj (Option.some.inj h)), (kv f1 (by decide)), (kv f3 (by decide))⟩)
          clear hb0 hb1 fT f1 f3 hK hb
          go_simp
          simpa [upd] using key
        case succ.zero =>
          have d0 := fT 0 _ (haft { on := 0, ground := .data } (by simp) rfl) (by rw [hTN]; rfl)
          have HALL := Aside0.mk (And.intro hK (And.intro hB (And.intro hb0 ( And.intro hb1 ( And.intro fT ( And.intro f1 ( And.intro f3 (True.intro))))))))
          clear hK hb0 hb1 fT f1 f3
          go_simp
          go_at_call 41
          refine (QT1.out _ hB.1).mono ?_
          rintro en w4 ⟨rfl, hb⟩
          obtain ⟨hK, hB, hb0, hb1, fT, f1, f3, _⟩ := HALL.out
          have key := hK.out (.int .i64 ty) w4 (by rw [hGN]; exact ⟨hB.next hb, blk_below hb0 hb, blk_below hb1 hb, tabs_step fT (fun c h => by rw [hTN] at h; cases h), fun _ => by rw [upd_eq], (kv f3 (by decide))⟩)
          clear hb0 hb1 fT f1 f3 hK HALL
          simpa [upd, d0] using key
        case succ.succ.zero =>
          have cc0 := (box_cell (v := .bool b1) hb1 0 rfl).1
          have cc1 := (box_cell (v := .slice A1 n1 c1) hb1 1 rfl).1
          have cc2 := (box_cell (v := .int .i64 x1) hb1 2 rfl).1
          have hb := Below.refl W.heap.size W
          have key := hK.out (.agg #[.bool b1, .slice A1 n1 c1, .int .i64 x1]) W (by rw [hGN]; exact ⟨hB.next hb, blk_below hb0 hb, blk_below hb1 hb, tabs_step fT (fun c h => by rw [hTN] at h; exact Option.some.inj (Option.some.inj h)), (kv f1 (by decide)), (kv f3 (by decide))⟩)
          clear hb0 hb1 fT f1 f3 hK hb
          go_simp
          simpa [upd] using key
        case succ.succ.succ.zero =>
          have d2 := fT 2 _ (haft { on := 2, ground := .data } (by simp) rfl) (by rw [hTN]; rfl)
          have HALL := Aside0.mk (And.intro hK (And.intro hB (And.intro hb0 ( And.intro hb1 ( And.intro fT ( And.intro f1 ( And.intro f3 (True.intro))))))))
          clear hK hb0 hb1 fT f1 f3
          go_simp
          go_at_call 41
          refine (QT2.out _ hB.1).mono ?_
          rintro en w4 ⟨rfl, hb⟩
          obtain ⟨hK, hB, hb0, hb1, fT, f1, f3, _⟩ := HALL.out
          have key := hK.out (.int .i64 tz) w4 (by rw [hGN]; exact ⟨hB.next hb, blk_below hb0 hb, blk_below hb1 hb, tabs_step fT (fun c h => by rw [hTN] at h; cases h), (kv f1 (by decide)), fun _ => by rw [upd_eq]⟩)
          clear hb0 hb1 fT f1 f3 hK HALL
          simpa [upd, d2] using key
        case succ.succ.succ.succ.zero =>
          have d1 := f1 (haft { on := 1, ground := .data } (by simp) rfl)
          have hb := Below.refl W.heap.size W
          have key := hK.out (.int .i64 ty) W (by rw [hGN]; exact ⟨hB.next hb, blk_below hb0 hb, blk_below hb1 hb, tabs_step fT (fun c h => by rw [hTN] at h; exact Option.some.inj (Option.some.inj h)), (kv f1 (by decide)), (kv f3 (by decide))⟩)
          clear hb0 hb1 fT f1 f3 hK hb
          go_simp
          simpa [upd, d1] using key
        case succ.succ.succ.succ.succ.zero =>
          have d3 := f3 (haft { on := 3, ground := .data } (by simp) rfl)
          have hb := Below.refl W.heap.size W
          have key := hK.out (.int .i64 tz) W (by rw [hGN]; exact ⟨hB.next hb, blk_below hb0 hb, blk_below hb1 hb, tabs_step fT (fun c h => by rw [hTN] at h; exact Option.some.inj (Option.some.inj h)), (kv f1 (by decide)), (kv f3 (by decide))⟩)
          clear hb0 hb1 fT f1 f3 hK hb
          go_simp
          simpa [upd, d3] using key
      case hendN =>
        intro v W2 L0 hall hGv
        rw [hGN] at hGv
        obtain ⟨hB, hb0, hb1, fT, f1, f3⟩ := hGv
        have d4 := fT 4 _ (hall 4 (by decide)) (by rw [hTN]; rfl)
        have d5 := fT 5 _ (hall 5 (by decide)) (by rw [hTN]; rfl)
        replace BEL := Aside0.mk hB
        replace X0 := Aside0.mk hb0
        replace X1 := Aside0.mk hb1
        clear hall hB fT f1 f3 hb0 hb1 hTN hGN TN GN
        simp only [setAll, List.setIfInBounds_toArray, List.set_cons_zero, List.set_cons_succ, Nat.reduceAdd, d4, d5]
        clear d4 d5
        rcases Int.lt_trichotomy ty tz with h | h | h
        · have hd1 : (ty == tz) = false := by simp; omega
          have hd2 : decide (tz < ty) = false := decide_eq_false (by omega)
          have HS := Aside0.mk (HL.out h)
          clear h HL HG
          go_wp2
          go_ret
          rw [HS.out]
          exact ⟨rfl, BEL.out.1⟩
        · have hd1 : (ty == tz) = true := by simp; omega
          clear h HL HG
          obtain ⟨q0, q0'⟩ := box_cell X0.out 0 rfl
          obtain ⟨q1, q1'⟩ := box_cell X0.out 1 rfl
          obtain ⟨q2, q2'⟩ := box_cell X0.out 2 rfl
          obtain ⟨q3, q3'⟩ := box_cell X1.out 0 rfl
          obtain ⟨q4, q4'⟩ := box_cell X1.out 1 rfl
          obtain ⟨q5, q5'⟩ := box_cell X1.out 2 rfl
          go_wp2_with fail
          clear q0 q0' q1 q1' q2 q2' q3 q3' q4 q4' q5 q5'
          go_at_call 42
          refine (QL.out _ BEL.out.1).mono ?_
          rintro en1 w1 ⟨v1, rfl, hr, hb⟩
          replace BEL := Aside0.mk (BEL.out.next hb)
          have P1 := Aside0.mk hr
          clear hr hb
          go_wp2_with fail
          go_at_call 40
          refine (QD.out _ _ _ P1.out).mono ?_
          rintro en2 w2 ⟨rfl, hb⟩
          replace BEL := Aside0.mk (BEL.out.next hb)
          clear hb
          go_wp2
          go_ret
          exact ⟨rfl, BEL.out.1⟩
        · have hd1 : (ty == tz) = false := by simp; omega
          have hd2 : decide (tz < ty) = true := decide_eq_true (by omega)
          have HS := Aside0.mk (HG.out h)
          clear h HL HG
          go_wp2
          go_ret
          rw [HS.out]
          exact ⟨rfl, BEL.out.1⟩)
theorem dorder_any {u v : Value} {y z e : Int} {w : World} (h : CDy w u y e) (h' : CDy w v z e) (o : Ok y e) (o' : Ok z e) :
    Calls Tryd.prog 16 #[u, v] w fun en w' => en = .returned (.int .i64 (sgnI (y - z))) ∧ Below w.heap.size w w' := by
  by_cases hn : sgnI y = sgnI z → sgnI y = 0
  · exact dorder_apart h h' o o' hn
  · rw [Classical.not_imp] at hn
    refine dorder_level (s := sgnI y) h h' o o' ?_ rfl hn.1.symm
    have := sgnI_cases y
    rcases this with h0 | h0 | h0
    · exact absurd h0 hn.2
    · exact .inl h0
    · exact .inr h0
end Go.Proofs.YtgpjplelgffocaaDoor

namespace Go.Proofs.YtgpjplelgffocaaDoor
open Go.RowKit Go.Proofs.YtgpjplelgffocaaDoorW.PrintWords Limb
set_option linter.unusedVariables false
set_option linter.unusedSimpArgs false

set_option maxRecDepth 100000 in
set_option maxHeartbeats 4000000 in
theorem great_any (l : List Nat) (A : Option Addr) (c : Nat) (w : World) (hl : kU.C w A l.length l) (hc : l.length ≤ c) (hm : l.length ≤ 1024) :
    Calls Tryd.prog 63 #[.slice A l.length c] w fun e w' => e = .returned (.bool false) ∧ Below w.heap.size w w' := by
  have HL := Aside0.mk hl
  have HB := Aside0.mk (Below.refl w.heap.size w)
  clear hl
  go_enter Tryd.func63, Tryd.ntmps63
  go_wp2
  go_loopw [3, 8] (fun v3 i wr => ∃ (k j : Nat), i = .int .i64 k ∧ k ≤ l.length ∧ v3 = .int .i64 j ∧ j ≤ k ∧ Aside0 (∃ n, wr = w.drewN n)) (fun _ i _ => l.length - (intOf i).toNat)
  case atStart => exact ⟨0, 0, rfl, Nat.zero_le _, rfl, Nat.le_refl _, ⟨⟨0, rfl⟩⟩⟩
  case round =>
    obtain ⟨k, j, rfl, hk, rfl, hj, HW⟩ := hrel
    obtain ⟨nw, rfl⟩ := HW.out
    clear HW
    by_cases hlt : k < l.length
    · obtain ⟨ad, x, rfl, hx0, hcell⟩ := at_word HL.out rfl k hlt
      clear hx0
      by_cases heq : x = 0
      · have hne : ((x : Int) != 0) = false := by simp [heq]
        clear heq
        go_wp2
        repeat (go_quiet (fail); try go_wp2)
        go_roundw
        case rel => exact ⟨k + 1, j, by go_num, by omega, rfl, by omega, ⟨⟨_, rfl⟩⟩⟩
        case measure => simp [intOf]; omega
      · have hne : ((x : Int) != 0) = true := by simp; omega
        clear heq
        go_wp2
        repeat (go_quiet (fail); try go_wp2)
        go_roundw
        case rel => exact ⟨k + 1, k + 1, by go_num, by omega, by go_num, by omega, ⟨⟨_, rfl⟩⟩⟩
        case measure => simp [intOf]; omega
    · have hd : decide ((1024 : Int) < j) = false := decide_eq_false (by omega)
      go_wp2
      repeat (go_quiet (fail); try go_wp2)
      go_ret
      exact ⟨rfl, pw_below_drewN HB.out _⟩

set_option maxRecDepth 100000 in
set_option maxHeartbeats 4000000 in
theorem dright_any {v : Value} {z e : Int} {w : World} (h : CDy w v z e) (hm : (limbs (cman z)).length ≤ 1024) (h1 : -32768 ≤ cexp z e) (h2 : cexp z e ≤ 32768) :
    Calls Tryd.prog 37 #[v] w fun en w' => en = .returned (.bool true) ∧ Below w.heap.size w w' := by
  obtain ⟨A, n, c, rfl, hC, hl, hc⟩ := h
  have QG := Aside0.mk (fun (W : World) (hb : Below w.heap.size w W) => great_any (limbs (cman z)) A c W (by rw [hl]; exact Kd.C_below hC hb) (by omega) hm)
  rw [hl] at QG
  obtain ⟨b0, hb0⟩ : ∃ q, q = cneg z := ⟨_, rfl⟩
  obtain ⟨x0, hx0⟩ : ∃ q, q = cexp z e := ⟨_, rfl⟩
  rw [← hb0, ← hx0]
  have hd1 : decide ((-32768 : Int) ≤ x0) = true := decide_eq_true (by omega)
  have hd2 : decide (x0 ≤ (32768 : Int)) = true := decide_eq_true (by omega)
  clear hC hl hc hm h1 h2 hb0 hx0
  have BEL : Aside0 (BelN w 1 (w.alloc (.cells #[.bool b0, .slice A n c, .int .i64 x0] 27))) := ⟨((BelN.zero w).alloc _).less (by decide)⟩
  have X0 := Aside0.mk (blk_new w (.cells #[.bool b0, .slice A n c, .int .i64 x0] 27))
  obtain ⟨q0, q0'⟩ := box_cell X0.out 0 rfl
  obtain ⟨q1, q1'⟩ := box_cell X0.out 1 rfl
  obtain ⟨q2, q2'⟩ := box_cell X0.out 2 rfl
  go_enter Tryd.func37, Tryd.ntmps37
  go_wp2_with fail
  clear q0 q0' q1 q1' q2 q2'
  go_at_call 63
  refine (QG.out _ BEL.out.1).mono ?_
  rintro en1 w1 ⟨rfl, hb⟩
  replace BEL := Aside0.mk (BEL.out.next hb)
  replace X0 := Aside0.mk (blk_below X0.out hb)
  clear hb
  obtain ⟨q0, q0'⟩ := box_cell X0.out 0 rfl
  obtain ⟨q1, q1'⟩ := box_cell X0.out 1 rfl
  obtain ⟨q2, q2'⟩ := box_cell X0.out 2 rfl
  go_wp2
  go_ret
  exact ⟨rfl, BEL.out.1⟩

/-- The word of a sign, an exponent's field and the rest. -/
def joinW (s : Bool) (E F : Nat) : Nat := E * 4503599627370496 + F + (if s = true then 9223372036854775808 else 0)
set_option maxRecDepth 100000 in
set_option maxHeartbeats 4000000 in
theorem join_any (s : Bool) (E F : Nat) (hE : E ≤ 2047) (hF : F < 4503599627370496) (w : World) :
    Calls Tryd.prog 39 #[.agg #[.bool s, .int .i64 (E : Int), .int .u64 (F : Int)]] w fun en w' => en = .returned (.tuple #[.int .u64 (joinW s E F : Int), .int .i64 0]) ∧ Below w.heap.size w w' := by
  have hd1 : decide ((E : Int) < 0) = false := decide_eq_false (by omega)
  have hd2 : decide ((2047 : Int) < (E : Int)) = false := decide_eq_false (by omega)
  have hd3 : decide ((4503599627370496 : Int) ≤ (F : Int)) = false := decide_eq_false (by omega)
  have HE := Aside0.mk hE
  have HF := Aside0.mk hF
  clear hE hF
  have BEL : Aside0 (BelN w 1 (w.alloc (.cells #[.bool s, .int .i64 (E : Int), .int .u64 (F : Int)] 63))) := ⟨((BelN.zero w).alloc _).less (by decide)⟩
  have X0 := Aside0.mk (blk_new w (.cells #[.bool s, .int .i64 (E : Int), .int .u64 (F : Int)] 63))
  obtain ⟨q0, q0'⟩ := box_cell X0.out 0 rfl
  obtain ⟨q1, q1'⟩ := box_cell X0.out 1 rfl
  obtain ⟨q2, q2'⟩ := box_cell X0.out 2 rfl
  go_enter Tryd.func39, Tryd.ntmps39
  have w1 : Aside0 (IntKind.u64.wrap (IntKind.u64.wrap (IntKind.u64.wrap (E : Int) * 4503599627370496) + (F : Int)) = ((E * 4503599627370496 + F : Nat) : Int)) := by
    refine ⟨?_⟩
    have h1 := HE.out
    have h2 := HF.out
    rw [show IntKind.u64.wrap (E : Int) = E from wrap_u64 (by omega) (by omega), show IntKind.u64.wrap ((E : Int) * 4503599627370496) = (E : Int) * 4503599627370496 from wrap_u64 (by omega) (by omega)]
    exact (wrap_u64 (by omega) (by omega)).trans (by omega)
  have w2 : Aside0 (IntKind.u64.wrap (((E * 4503599627370496 + F : Nat) : Int) + 9223372036854775808) = ((E * 4503599627370496 + F + 9223372036854775808 : Nat) : Int)) := by
    refine ⟨?_⟩
    have h1 := HE.out
    have h2 := HF.out
    exact (wrap_u64 (by omega) (by omega)).trans (by omega)
  cases s
  all_goals (
    go_wp2
    refine bodyPost_ret (results_tmp2 rfl _ _ _) rfl ?_)
  · refine ⟨?_, below_alloc (Below.refl _ _) _⟩
    show Ending.returned (.tuple #[.int .u64 (IntKind.u64.wrap (IntKind.u64.wrap (IntKind.u64.wrap (E : Int) * 4503599627370496) + (F : Int))), .int .i64 0]) = _
    rw [w1.out, show joinW false E F = E * 4503599627370496 + F by unfold joinW; simp]
  · refine ⟨?_, below_alloc (Below.refl _ _) _⟩
    show Ending.returned (.tuple #[.int .u64 (IntKind.u64.wrap (IntKind.u64.wrap (IntKind.u64.wrap (IntKind.u64.wrap (E : Int) * 4503599627370496) + (F : Int)) + 9223372036854775808)), .int .i64 0]) = _
    rw [w1.out, w2.out]
    unfold joinW
    rw [if_pos rfl]
end Go.Proofs.YtgpjplelgffocaaDoor

namespace Go.Proofs.YtgpjplelgffocaaDoor
open Go.RowKit Go.Proofs.YtgpjplelgffocaaDoorW.PrintWords Limb
set_option linter.unusedVariables false
set_option linter.unusedSimpArgs false

section
variable {P : Program} {ops : Array Oper} {rest : List Oper} {o : Oper} {a : Act} {Q : Exit → Act → World → Prop}
/-- One cell of a struct's box is written. -/
theorem store_one {W : World} (t : TypeId) (p : Tmp) (x : Operand) (ho : o.op = .store t (.tmp p) x) (hgd : o.guard = none) (hN : o.dst = none) {g i : Nat} {cur new : Array Value} {e : TypeId} (u : Value)
    (haddr : a.eval (.tmp p) = .pointer (some ⟨g, i, none⟩)) (hx : a.eval x = u) (hu : u.cells.toList = [u]) (ht : (P.info? t).map (·.size) = some 1) (h1 : u.oneCell' = true)
    (hh : W.heap[g]? = some (.cells cur e (0, 0))) (hi : i < cur.size) (hnew : cur.setIfInBounds i u = new)
    (h : ∀ w1, w1.heap[g]? = some (.cells new e (0, 0)) → W.grownBy w1 (some g) → wpList P ops Q rest a w1) : wpList P ops Q (o :: rest) a W := by
  have hst := run_store_run (P := P) t u [u] hh hu ht (o := i) (by simp; omega) (fun q hq => by rw [List.mem_singleton.1 hq]; exact h1)
  refine store_event hgd ho hN (w1 := W.setCells g i [u]) ?_ ?_
  · simp [execOp, ho, haddr, hx, hst]
  · rintro w' rfl
    obtain ⟨s1, s2, s3, s4⟩ := setCells_same g [u] i W
    refine h _ ?_ ⟨s1, s2, s3, by rw [s4]; exact Nat.le_refl _, fun k _ hk => setCells_far [u] _ k (fun he => hk (by rw [he]))⟩
    have := blk_set hh i u
    rw [hnew] at this
    exact this
end
theorem info_word1 : (Tryd.prog.info? 23).map (·.size) = some 1 := by kernel_rfl
theorem info_int : (Tryd.prog.info? 3).map (·.size) = some 1 := by kernel_rfl
theorem pow_word {m : Nat} (h0 : m ≠ 0) (h : bl m ≤ 53) : 4503599627370496 ≤ m * 2 ^ (53 - bl m) ∧ m * 2 ^ (53 - bl m) < 9007199254740992 := by
  have h1 := bl_le h0
  have h2 := bl_lt m
  have h3 : 0 < bl m := by rw [bl_pos h0]; exact Nat.succ_pos _
  have h4 : 0 < 2 ^ (53 - bl m) := Nat.two_pow_pos _
  have e1 : 2 ^ (bl m - 1) * 2 ^ (53 - bl m) = 4503599627370496 := by rw [← Nat.pow_add, show bl m - 1 + (53 - bl m) = 52 by omega]
  have e2 : 2 ^ bl m * 2 ^ (53 - bl m) = 9007199254740992 := by rw [← Nat.pow_add, show bl m + (53 - bl m) = 53 by omega]
  exact ⟨by rw [← e1]; exact Nat.mul_le_mul_right _ h1, by rw [← e2]; exact Nat.mul_lt_mul_of_pos_right h2 h4⟩
def toF (z e : Int) : Option Nat := if z = 0 then some 0 else if bl (cman z) ≤ 53 ∧ cexp z e + bl (cman z) - 1 ≤ 1023 then some (joinW (cneg z) (cexp z e + bl (cman z) + 1022).toNat (cman z * 2 ^ (53 - bl (cman z)) - 4503599627370496)) else none

set_option maxRecDepth 100000 in
set_option maxHeartbeats 8000000 in
theorem to_zero {v : Value} {z e : Int} {w : World} (h : CDy w v z e) (hz : z = 0) (h1 : -32768 ≤ cexp z e) (h2 : cexp z e ≤ 32768) :
    Calls Tryd.prog 15 #[v] w fun en w' => en = .returned (.tuple #[.int .u64 0, .bool true]) ∧ Below w.heap.size w w' := by
  obtain ⟨b0, A, n0, c, x0, rfl⟩ := h.ex
  have HM : Aside0 (limbs (cman z) = []) := ⟨by rw [hz, cman_zero, limbs_zero]⟩
  have HLEN : (limbs (cman z)).length ≤ 1024 := by rw [HM.out]; decide
  have QR := Aside0.mk (fun (W : World) (hb : Below w.heap.size w W) => dright_any (h.below hb) HLEN h1 h2)
  have QO := Aside0.mk (fun (W : World) (hb : Below w.heap.size w W) => one_dy _ z e W (h.below hb) (Nat.le_trans HLEN (by decide)) (Int.le_trans (by decide) h1) (Int.le_trans h2 (by decide)))
  clear h hz h1 h2 HLEN
  go_enter Tryd.func15, Tryd.ntmps15
  have BEL : Aside0 (BelN w 1 (w.alloc (.cells #[.bool b0, .slice A n0 c, .int .i64 x0] 27))) := ⟨((BelN.zero w).alloc _).less (by decide)⟩
  have X0 : Aside0 ((w.alloc (.cells #[.bool b0, .slice A n0 c, .int .i64 x0] 27)).heap[w.heap.size]? = some (.cells #[.bool b0, .slice A n0 c, .int .i64 x0] 27 (0, 0))) := ⟨by have h := blk_new w (.cells #[.bool b0, .slice A n0 c, .int .i64 x0] 27); exact h⟩
  obtain ⟨q0, q0'⟩ := box_cell X0.out 0 rfl
  obtain ⟨q1, q1'⟩ := box_cell X0.out 1 rfl
  obtain ⟨q2, q2'⟩ := box_cell X0.out 2 rfl
  go_wp2_with fail
  clear q0 q0' q1 q1' q2 q2'
  go_at_call 37
  refine (QR.out _ BEL.out.1).mono ?_
  rintro en1 w1 ⟨rfl, hb⟩
  replace BEL := Aside0.mk (BEL.out.next hb)
  replace X0 := Aside0.mk (blk_below X0.out hb)
  clear hb
  obtain ⟨q3, q3'⟩ := box_cell X0.out 0 rfl
  obtain ⟨q4, q4'⟩ := box_cell X0.out 1 rfl
  obtain ⟨q5, q5'⟩ := box_cell X0.out 2 rfl
  go_wp2_with fail
  clear q3 q3' q4 q4' q5 q5'
  go_at_call 38
  refine (QO.out _ BEL.out.1).mono ?_
  rintro en2 w2 ⟨v2, rfl, hr, hb⟩
  replace BEL := Aside0.mk (BEL.out.next hb)
  replace X0 := Aside0.mk (blk_below X0.out hb)
  have P2 := Aside0.mk hr
  obtain ⟨b2, A2, n2, c2, x2, rfl⟩ := hr.ex
  clear hr hb
  obtain ⟨e1, e2, e3, e4, e5⟩ := CDy.parts P2.out.c
  rw [HM.out] at e4
  have e6 : n2 = 0 := e4.symm
  subst e6
  have HS2 := Aside0.mk e1
  have HX2 := Aside0.mk e2
  have HC2 := Aside0.mk e5
  clear e1 e2 e3 e4 e5
  have BELo := BEL
  go_wp2_with (replace BEL := Aside0.mk ((BEL.out.alloc (.cells #[.bool false, .slice none 0 0, .int .i64 0] 27)).less (j := 1) (by omega)); have HN := Aside0.mk (blk_new w2 (.cells #[.bool false, .slice none 0 0, .int .i64 0] 27)); have L_X0 := lt_blk X0.out; replace X0 := Aside0.mk (blk_alloc X0.out (.cells #[.bool false, .slice none 0 0, .int .i64 0] 27)); replace P2 := Aside0.mk (P2.out.below (below_alloc (Below.refl _ _) (.cells #[.bool false, .slice none 0 0, .int .i64 0] 27))); ((with_reducible refine gate_store (p := 4) rfl ?_); go_must (refine store_box 27 4 (.tmp 14) rfl rfl rfl (g := w2.heap.size) (e := 27) (.agg #[.bool b2, .slice A2 0 c2, .int .i64 x2]) ([.bool b2, .slice A2 0 c2, .int .i64 x2]) rfl rfl rfl info_dyad ?b1 HN.out rfl ?_; (case b1 => intro q hq; simp at hq; rcases hq with rfl | rfl | rfl <;> rfl); intro wb hbx hgx; have HX := Aside0.mk hbx; have HG := Aside0.mk hgx; clear hbx hgx)); replace P2 := Aside0.mk (P2.out.grown_box HN.out (by decide) HG.out); have LB_XC := BELo.out.2; replace BEL := Aside0.mk (BEL.out.grown HG.out (Nat.le_trans (Nat.le_add_right _ _) LB_XC)); replace X0 := Aside0.mk (blk_grown X0.out HG.out (Nat.ne_of_lt L_X0)); have NE_X0_XC := Aside0.mk (Nat.ne_of_lt L_X0); clear L_X0; have LL_XC := Aside0.mk LB_XC; clear LB_XC; have XC := HX; clear HG HN HX; obtain ⟨q6, q6'⟩ := box_cell XC.out 0 rfl; obtain ⟨q7, q7'⟩ := box_cell XC.out 1 rfl; obtain ⟨q8, q8'⟩ := box_cell XC.out 2 rfl)
  refine bodyPost_ret (results_tmp2 rfl _ _ _) rfl ?_
  exact ⟨rfl, BEL.out.1⟩

set_option maxRecDepth 100000 in
set_option maxHeartbeats 8000000 in
theorem to_some {v : Value} {z e : Int} {w : World} (h : CDy w v z e) (hz : z ≠ 0) (hm : cman z < 18446744073709551616) (ht : -1022 ≤ cexp z e + bl (cman z) - 1) (h1 : -32768 ≤ cexp z e) (h2 : cexp z e ≤ 32768) :
    Calls Tryd.prog 15 #[v] w fun en w' => en = .returned (.tuple #[.int .u64 (((toF z e).getD 0 : Nat) : Int), .bool (toF z e).isSome]) ∧ Below w.heap.size w w' := by
  obtain ⟨b0, A, n0, c, x0, rfl⟩ := h.ex
  have hm0 : cman z ≠ 0 := fun h0 => hz (cman_eq_zero.1 h0)
  have HM : Aside0 (limbs (cman z) = [cman z]) := ⟨limbs_one hm0 hm⟩
  have HLEN : (limbs (cman z)).length ≤ 1024 := by rw [HM.out]; exact (show 1 ≤ 1024 by decide)
  have QR := Aside0.mk (fun (W : World) (hb : Below w.heap.size w W) => dright_any (h.below hb) HLEN h1 h2)
  have QO := Aside0.mk (fun (W : World) (hb : Below w.heap.size w W) => one_dy _ z e W (h.below hb) (Nat.le_trans HLEN (by decide)) (Int.le_trans (by decide) h1) (Int.le_trans h2 (by decide)))
  have QL := Aside0.mk (fun (W : World) (A : Option Addr) (c : Nat) (hC : kU.C W A 1 (limbs (cman z))) (hc : 1 ≤ c) => (by
    rw [HM.out] at hC
    have q := len_any [cman z] A c W hC hc (.cons hm .nil) (show 1 ≤ 4294967296 by decide)
    rw [show nv [cman z] = cman z by simp [nv]] at q
    exact q : Calls Tryd.prog 33 #[.slice A 1 c] W fun en w' => en = .returned (.int .i64 (bl (cman z) : Int)) ∧ Below W.heap.size W w'))
  have HR := Aside0.mk (show toF z e = if bl (cman z) ≤ 53 ∧ cexp z e + bl (cman z) - 1 ≤ 1023 then some (joinW (cneg z) (cexp z e + bl (cman z) + 1022).toNat (cman z * 2 ^ (53 - bl (cman z)) - 4503599627370496)) else none from if_neg hz)
  have HBL := Aside0.mk (show bl (cman z) ≤ 64 from bl_le_iff.2 hm)
  have HT := Aside0.mk (And.intro h1 (And.intro h2 ht))
  have HPW := Aside0.mk (fun h => pow_word hm0 h)
  have HMC := Aside0.mk (And.intro hm0 hm)
  have HMV := HM
  generalize bl (cman z) = N at *
  clear h hz h1 h2 HLEN ht hm hm0
  go_enter Tryd.func15, Tryd.ntmps15
  have BEL : Aside0 (BelN w 1 (w.alloc (.cells #[.bool b0, .slice A n0 c, .int .i64 x0] 27))) := ⟨((BelN.zero w).alloc _).less (by decide)⟩
  have X0 : Aside0 ((w.alloc (.cells #[.bool b0, .slice A n0 c, .int .i64 x0] 27)).heap[w.heap.size]? = some (.cells #[.bool b0, .slice A n0 c, .int .i64 x0] 27 (0, 0))) := ⟨by have h := blk_new w (.cells #[.bool b0, .slice A n0 c, .int .i64 x0] 27); exact h⟩
  obtain ⟨q0, q0'⟩ := box_cell X0.out 0 rfl
  obtain ⟨q1, q1'⟩ := box_cell X0.out 1 rfl
  obtain ⟨q2, q2'⟩ := box_cell X0.out 2 rfl
  go_wp2_with fail
  clear q0 q0' q1 q1' q2 q2'
  go_at_call 37
  refine (QR.out _ BEL.out.1).mono ?_
  rintro en1 w1 ⟨rfl, hb⟩
  replace BEL := Aside0.mk (BEL.out.next hb)
  replace X0 := Aside0.mk (blk_below X0.out hb)
  clear hb
  obtain ⟨q3, q3'⟩ := box_cell X0.out 0 rfl
  obtain ⟨q4, q4'⟩ := box_cell X0.out 1 rfl
  obtain ⟨q5, q5'⟩ := box_cell X0.out 2 rfl
  go_wp2_with fail
  clear q3 q3' q4 q4' q5 q5'
  go_at_call 38
  refine (QO.out _ BEL.out.1).mono ?_
  rintro en2 w2 ⟨v2, rfl, hr, hb⟩
  replace BEL := Aside0.mk (BEL.out.next hb)
  replace X0 := Aside0.mk (blk_below X0.out hb)
  have P2 := Aside0.mk hr
  obtain ⟨b2, A2, n2, c2, x2, rfl⟩ := hr.ex
  clear hr hb
  obtain ⟨e1, e2, e3, e4, e5⟩ := CDy.parts P2.out.c
  rw [HM.out] at e4
  have e6 : n2 = 1 := e4.symm
  subst e6
  have HS2 := Aside0.mk e1
  have HX2 := Aside0.mk e2
  have HC2 := Aside0.mk e5
  clear e1 e2 e3 e4 e5
  have BELo := BEL
  go_wp2_with (replace BEL := Aside0.mk ((BEL.out.alloc (.cells #[.bool false, .slice none 0 0, .int .i64 0] 27)).less (j := 1) (by omega)); have HN := Aside0.mk (blk_new w2 (.cells #[.bool false, .slice none 0 0, .int .i64 0] 27)); have L_X0 := lt_blk X0.out; replace X0 := Aside0.mk (blk_alloc X0.out (.cells #[.bool false, .slice none 0 0, .int .i64 0] 27)); replace P2 := Aside0.mk (P2.out.below (below_alloc (Below.refl _ _) (.cells #[.bool false, .slice none 0 0, .int .i64 0] 27))); ((with_reducible refine gate_store (p := 4) rfl ?_); go_must (refine store_box 27 4 (.tmp 14) rfl rfl rfl (g := w2.heap.size) (e := 27) (.agg #[.bool b2, .slice A2 1 c2, .int .i64 x2]) ([.bool b2, .slice A2 1 c2, .int .i64 x2]) rfl rfl rfl info_dyad ?b1 HN.out rfl ?_; (case b1 => intro q hq; simp at hq; rcases hq with rfl | rfl | rfl <;> rfl); intro wb hbx hgx; have HX := Aside0.mk hbx; have HG := Aside0.mk hgx; clear hbx hgx)); replace P2 := Aside0.mk (P2.out.grown_box HN.out (by decide) HG.out); have LB_XC := BELo.out.2; replace BEL := Aside0.mk (BEL.out.grown HG.out (Nat.le_trans (Nat.le_add_right _ _) LB_XC)); replace X0 := Aside0.mk (blk_grown X0.out HG.out (Nat.ne_of_lt L_X0)); have NE_X0_XC := Aside0.mk (Nat.ne_of_lt L_X0); clear L_X0; have LL_XC := Aside0.mk LB_XC; clear LB_XC; have XC := HX; clear HG HN HX; obtain ⟨q6, q6'⟩ := box_cell XC.out 0 rfl; obtain ⟨q7, q7'⟩ := box_cell XC.out 1 rfl; obtain ⟨q8, q8'⟩ := box_cell XC.out 2 rfl)
  clear q6 q6' q7 q7' q8 q8'
  go_at_call 33
  refine (QL.out _ _ _ (CDy.parts P2.out.c).2.2.1 HC2.out).mono ?_
  rintro en3 w3 ⟨rfl, hb⟩
  replace BEL := Aside0.mk (BEL.out.next hb)
  replace X0 := Aside0.mk (blk_below X0.out hb)
  replace XC := Aside0.mk (blk_below XC.out hb)
  replace P2 := Aside0.mk (P2.out.below hb)
  clear hb
  obtain ⟨S, hS⟩ : ∃ S, S = x2 + (N : Int) := ⟨_, rfl⟩
  obtain ⟨TT, hTT⟩ : ∃ T, T = S - 1 := ⟨_, rfl⟩
  have HV := Aside0.mk (And.intro hS hTT)
  have hw1 : IntKind.i64.wrap (x2 + (N : Int)) = S := by rw [hS]; exact wrap_i64 (by have := HT.out; have := HX2.out; have := HBL.out; omega) (by have := HT.out; have := HX2.out; have := HBL.out; omega)
  have hw2 : IntKind.i64.wrap (S - 1) = TT := by rw [hTT, hS]; exact wrap_i64 (by have := HT.out; have := HX2.out; have := HBL.out; omega) (by have := HT.out; have := HX2.out; have := HBL.out; omega)
  clear hS hTT
  by_cases hN : N ≤ 53
  case neg =>
    have hg1 : decide ((53 : Int) < N) = true := decide_eq_true (by omega)
    have HE : Aside0 (toF z e = none) := ⟨by rw [HR.out, if_neg (fun h => hN h.1)]⟩
    clear hN
    obtain ⟨q9, q9'⟩ := box_cell XC.out 0 rfl
    obtain ⟨q10, q10'⟩ := box_cell XC.out 1 rfl
    obtain ⟨q11, q11'⟩ := box_cell XC.out 2 rfl
    go_wp2_with fail
    refine bodyPost_ret (results_tmp2 rfl _ _ _) rfl ?_
    rw [HE.out]
    exact ⟨rfl, BEL.out.1⟩
  have hg1 : decide ((53 : Int) < N) = false := decide_eq_false (by omega)
  have hg2 : decide (x2 < (-1074 : Int)) = false := decide_eq_false (by have := HT.out; have := HX2.out; omega)
  have HN := Aside0.mk hN
  clear hN
  by_cases hT : TT ≤ 1023
  case neg =>
    have hg3 : decide ((1023 : Int) < TT) = true := decide_eq_true (by omega)
    have HE : Aside0 (toF z e = none) := ⟨by rw [HR.out, if_neg (fun h => hT (by have := HV.out; have := HX2.out; omega))]⟩
    clear hT
    obtain ⟨q9, q9'⟩ := box_cell XC.out 0 rfl
    obtain ⟨q10, q10'⟩ := box_cell XC.out 1 rfl
    obtain ⟨q11, q11'⟩ := box_cell XC.out 2 rfl
    go_wp2_with fail
    refine bodyPost_ret (results_tmp2 rfl _ _ _) rfl ?_
    rw [HE.out]
    exact ⟨rfl, BEL.out.1⟩
  have hg3 : decide ((1023 : Int) < TT) = false := decide_eq_false (by omega)
  have hg4 : decide (TT < (-1022 : Int)) = false := decide_eq_false (by have := HV.out; have := HX2.out; have := HT.out; omega)
  have HE : Aside0 (toF z e = some (joinW b2 (TT + 1023).toNat (cman z * 2 ^ (53 - N) - 4503599627370496))) := ⟨by rw [HR.out, if_pos ⟨HN.out, by have := HV.out; have := HX2.out; omega⟩, HS2.out, show cexp z e + (N : Int) + 1022 = TT + 1023 by have := HV.out; have := HX2.out; omega]⟩
  obtain ⟨E, hE⟩ : ∃ E : Nat, (E : Int) = TT + 1023 := ⟨(TT + 1023).toNat, by have := HV.out; have := HX2.out; have := HT.out; omega⟩
  have hw3 : IntKind.i64.wrap (TT + 1023) = (E : Int) := by rw [hE]; exact wrap_i64 (by have := HV.out; have := HX2.out; have := HT.out; omega) (by omega)
  have HE1 := Aside0.mk (show E ≤ 2047 by omega)
  replace HE := Aside0.mk (HE.out.trans (by rw [← hE, Int.toNat_natCast] : _ = some (joinW b2 E (cman z * 2 ^ (53 - N) - 4503599627370496))))
  obtain ⟨F, hF⟩ : ∃ F, F = cman z * 2 ^ (53 - N) - 4503599627370496 := ⟨_, rfl⟩
  have hw6 : IntKind.u64.wrap (IntKind.u64.wrap ((cman z : Int) * 2 ^ min (IntKind.u64.wrap (wrap64 (53 - (N : Int)))).toNat 64) - 4503599627370496) = (F : Int) := by
    obtain ⟨p1, p2⟩ := HPW.out HN.out
    have p3 := HN.out
    rw [show wrap64 (53 - (N : Int)) = ((53 - N : Nat) : Int) from by unfold wrap64; omega, show IntKind.u64.wrap ((53 - N : Nat) : Int) = ((53 - N : Nat) : Int) from wrap_u64 (by omega) (by omega), Int.toNat_natCast, Nat.min_eq_left (by omega)]
    have p4 : (cman z : Int) * 2 ^ (53 - N) = ((cman z * 2 ^ (53 - N) : Nat) : Int) := by rw [Int.natCast_mul, Int.natCast_pow]; rfl
    rw [p4, show IntKind.u64.wrap ((cman z * 2 ^ (53 - N) : Nat) : Int) = ((cman z * 2 ^ (53 - N) : Nat) : Int) from wrap_u64 (by omega) (by omega)]
    exact (wrap_u64 (by omega) (by omega)).trans (by rw [hF]; omega)
  have HF1 := Aside0.mk (show F < 4503599627370496 by have := HPW.out HN.out; omega)
  replace HE := Aside0.mk (HE.out.trans (by rw [← hF] : _ = some (joinW b2 E F)))
  clear hT hE hF
  obtain ⟨q9, q9'⟩ := box_cell XC.out 0 rfl
  obtain ⟨q10, q10'⟩ := box_cell XC.out 1 rfl
  obtain ⟨q11, q11'⟩ := box_cell XC.out 2 rfl
  have BELo := BEL
  go_wp2_with (first | (clear q9 q9' q10 q10' q11 q11'; replace BEL := Aside0.mk ((BEL.out.alloc (.cells #[.bool false, .int .i64 0, .int .u64 0] 63)).less (j := 1) (by omega)); have HN := Aside0.mk (blk_new w3 (.cells #[.bool false, .int .i64 0, .int .u64 0] 63)); have L_X0 := lt_blk X0.out; replace X0 := Aside0.mk (blk_alloc X0.out (.cells #[.bool false, .int .i64 0, .int .u64 0] 63)); have L_XC := lt_blk XC.out; replace XC := Aside0.mk (blk_alloc XC.out (.cells #[.bool false, .int .i64 0, .int .u64 0] 63)); replace P2 := Aside0.mk (P2.out.below (below_alloc (Below.refl _ _) (.cells #[.bool false, .int .i64 0, .int .u64 0] 63))); ((with_reducible refine gate_store (p := 7) rfl ?_); go_must (refine store_box 63 7 (.tmp 40) rfl rfl rfl (g := w3.heap.size) (e := 63) (.agg #[.bool b2, .int .i64 0, .int .u64 0]) ([.bool b2, .int .i64 0, .int .u64 0]) rfl rfl rfl info_fields ?b1 HN.out rfl ?_; (case b1 => intro q hq; simp at hq; rcases hq with rfl | rfl | rfl <;> rfl); intro wb hbx hgx; have HX := Aside0.mk hbx; have HG := Aside0.mk hgx; clear hbx hgx)); replace P2 := Aside0.mk (P2.out.grown_box HN.out (by decide) HG.out); have LB_XF := BELo.out.2; replace BEL := Aside0.mk (BEL.out.grown HG.out (Nat.le_trans (Nat.le_add_right _ _) LB_XF)); replace X0 := Aside0.mk (blk_grown X0.out HG.out (Nat.ne_of_lt L_X0)); replace XC := Aside0.mk (blk_grown XC.out HG.out (Nat.ne_of_lt L_XC)); have NE_X0_XF := Aside0.mk (Nat.ne_of_lt L_X0); have NE_XC_XF := Aside0.mk (Nat.ne_of_lt L_XC); clear L_X0; clear L_XC; have LL_XF := Aside0.mk LB_XF; clear LB_XF; have XF := HX; clear HG HN HX) | (((with_reducible refine gate_store (p := 55) rfl ?_); go_must (refine store_one 3 55 (.tmp 54) rfl rfl rfl (g := w3.heap.size) (i := 1) (cur := #[.bool b2, .int .i64 0, .int .u64 0]) ((.int .i64 (E : Int))) rfl rfl rfl info_int rfl XF.out (by simp) (new := #[.bool b2, .int .i64 (E : Int), .int .u64 0]) rfl ?_; intro wb hbx hgx; have HX := Aside0.mk hbx; have HG := Aside0.mk hgx; clear hbx hgx)); replace P2 := Aside0.mk (P2.out.grown_box XF.out (by decide) HG.out); replace BEL := Aside0.mk (BEL.out.grown HG.out (Nat.le_trans (Nat.le_add_right _ _) LL_XF.out)); replace X0 := Aside0.mk (blk_grown X0.out HG.out NE_X0_XF.out); replace XC := Aside0.mk (blk_grown XC.out HG.out NE_XC_XF.out); replace XF := HX; clear HG HX; have HCC := Aside0.mk (CDy.parts P2.out.c).2.2.1; rw [HM.out] at HCC; obtain ⟨ad, x, rfl, hx0, hcell⟩ := at_word HCC.out rfl 0 (by decide); have hx1 : x = cman z := (Option.some.inj hx0).symm; subst hx1; have hcell2 : wb.cell? ad = some (.int .u64 (cman z : Int)) := (by simpa [Addr.add] using hcell); clear hx0 hcell; obtain ⟨q12, q12'⟩ := box_cell XC.out 0 rfl; obtain ⟨q13, q13'⟩ := box_cell XC.out 1 rfl; obtain ⟨q14, q14'⟩ := box_cell XC.out 2 rfl) | (clear q12 q12' q13 q13' q14 q14'; ((with_reducible refine gate_store (p := 65) rfl ?_); go_must (refine store_one 23 65 (.tmp 64) rfl rfl rfl (g := w3.heap.size) (i := 2) (cur := #[.bool b2, .int .i64 (E : Int), .int .u64 0]) ((.int .u64 (F : Int))) rfl rfl rfl info_word1 rfl XF.out (by simp) (new := #[.bool b2, .int .i64 (E : Int), .int .u64 (F : Int)]) rfl ?_; intro wb hbx hgx; have HX := Aside0.mk hbx; have HG := Aside0.mk hgx; clear hbx hgx)); replace P2 := Aside0.mk (P2.out.grown_box XF.out (by decide) HG.out); replace BEL := Aside0.mk (BEL.out.grown HG.out (Nat.le_trans (Nat.le_add_right _ _) LL_XF.out)); replace X0 := Aside0.mk (blk_grown X0.out HG.out NE_X0_XF.out); replace XC := Aside0.mk (blk_grown XC.out HG.out NE_XC_XF.out); replace XF := HX; clear HG HX; obtain ⟨q15, q15'⟩ := box_cell XF.out 0 rfl; obtain ⟨q16, q16'⟩ := box_cell XF.out 1 rfl; obtain ⟨q17, q17'⟩ := box_cell XF.out 2 rfl))
  clear q15 q15' q16 q16' q17 q17'
  go_at_call 39
  refine (join_any b2 E F HE1.out HF1.out _).mono ?_
  rintro en4 w4 ⟨rfl, hb⟩
  replace BEL := Aside0.mk (BEL.out.next hb)
  replace X0 := Aside0.mk (blk_below X0.out hb)
  replace XC := Aside0.mk (blk_below XC.out hb)
  replace XF := Aside0.mk (blk_below XF.out hb)
  replace P2 := Aside0.mk (P2.out.below hb)
  clear hb
  go_wp2_with fail
  refine bodyPost_ret (results_tmp2 rfl _ _ _) rfl ?_
  rw [HE.out]
  exact ⟨rfl, BEL.out.1⟩
end Go.Proofs.YtgpjplelgffocaaDoor
