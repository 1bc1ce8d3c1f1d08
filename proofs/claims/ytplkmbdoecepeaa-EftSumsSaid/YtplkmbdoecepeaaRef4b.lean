/- The document's dyadic numbers (ulpref04): One, Zero, Top, Bits, Sign, Same. -/
import Derived.Test.YtplkmbdoecepeaaRef4a
import Derived.Test.YtplkmbdoecepeaaRef3b
import Derived.Deep.RegionHeld3
import Derived.Deep.RegionWith
namespace Go.Proofs.Ytplkmbdoecepeaa
open Go.RowKit Go.Proofs.YtplkmbdoecepeaaW.PrintWords Limb
set_option linter.unusedVariables false
set_option linter.unusedSimpArgs false

set_option maxHeartbeats 1000000 in
theorem one_any (neg : Bool) (l : List Nat) (A : Option Addr) (n c : Nat) (ex : Int) (hn : l.length = n) (w : World) (hl : kU.C w A n l) (hc : n ≤ c) (wl : Wf l) (ln : n ≤ 1073741824) (le1 : -1099511627776 ≤ ex) (le2 : ex ≤ 1099511627776) :
    Calls Try.prog 41 #[.agg #[.bool neg, .slice A n c, .int .i64 ex]] w fun e w' => ∃ v, e = .returned v ∧ RDy w' w.heap.size v (sgn neg (nv l)) ex ∧ Below w.heap.size w w' := by
  have QF := Aside0.mk (fun (m : World) (hm : Below w.heap.size w m) => form_any neg l A n c ex hn m (Kd.C_below hl hm) hc wl ln le1 le2)
  clear hl
  go_enter Try.func41, Try.ntmps41
  go_wp2_with (first
    | (go_at_call 42; go_must (refine (QF.out _ (below_alloc (below_alloc (Below.refl _ _) _) _)).mono ?_; rintro e w1 ⟨v, rfl, ⟨A2, n2, c2, rfl, hr⟩, hb⟩; have HR := Aside0.mk hr; have HB := Aside0.mk (below_then (below_alloc (below_alloc (Below.refl w.heap.size w) _) _) (below_alloc (below_alloc (Below.refl w.heap.size w) _) _).size hb); have hh := blk_below (blk_new _ _) hb; rw [size_alloc'] at hh; have HH := Aside0.mk hh; clear hr hb hh))
    | ((with_reducible refine gate_store (p := 2) rfl ?_); go_must (refine store_box 30 2 (.tmp 9) rfl rfl rfl (g := (w.heap.size + 1)) (e := 30) (.agg #[.bool (cneg (sgn neg (nv l))), .slice A2 n2 c2, .int .i64 (cexp (sgn neg (nv l)) ex)]) ([.bool (cneg (sgn neg (nv l))), .slice A2 n2 c2, .int .i64 (cexp (sgn neg (nv l)) ex)]) rfl rfl rfl info_dyad ?b1 HH.out rfl ?_; (case b1 => intro q hq; simp at hq; rcases hq with rfl | rfl | rfl <;> rfl); intro wb hbx hgx; have HX := Aside0.mk hbx; have HG := Aside0.mk hgx; clear hbx hgx)))
  refine bodyPost_ret (results_dyad rfl _ _ (w.heap.size + 1) _ rfl HX.out rfl) rfl ?_
  refine ⟨_, rfl, RDy.lower (b := w.heap.size + 2) (RDy.grown (w := w1) ?_ HG.out (by omega)) (by omega), HB.out.grown HG.out HB.out.size (fun k hk => by cases hk; omega)⟩
  have h := HR.out
  rw [size_alloc', size_alloc'] at h
  exact ⟨A2, n2, c2, rfl, h⟩

theorem below_of_alloc {w w1 : World} {o : Obj} (h : Below (w.alloc o).heap.size (w.alloc o) w1) : Below w.heap.size w w1 :=
  below_then (below_alloc (Below.refl _ _) _) (below_alloc (Below.refl _ _) _).size h
theorem below_of_drew {w w1 : World} {o : Obj} (h : Below (w.alloc o).drew.heap.size (w.alloc o).drew w1) : Below w.heap.size w w1 :=
  below_then (below_drew (below_alloc (Below.refl _ _) _)) (below_drew (below_alloc (Below.refl _ _) _)).size h
theorem wrap_top {x : Int} (h0 : -9223372036854775808 ≤ x) (h1 : x ≤ 9223372036854775807) : IntKind.i64.wrap x = x := wrap_i64 h0 h1
set_option maxHeartbeats 4000000 in
theorem top_any (v : Value) (z e : Int) (w : World) (h : CDy w v z e) (hl : (limbs (cman z)).length ≤ 1073741824) (le1 : -1099511627776 ≤ cexp z e) (le2 : cexp z e ≤ 1099511627776) :
    Calls Try.prog 15 #[v] w fun en w' => en = .returned (.int .i64 (cexp z e + bl (cman z) - 1)) ∧ Below w.heap.size w w' := by
  obtain ⟨A, n, c, rfl, hC, hn, hc⟩ := h
  have QL := Aside0.mk (fun (m : World) (hm : Below w.heap.size w m) => len_any (limbs (cman z)) A c m (by rw [hn]; exact Kd.C_below hC hm) (by omega) (wf_limbs _) (by omega))
  rw [hn] at QL
  obtain ⟨T, hT⟩ : ∃ T, T = bl (cman z) := ⟨_, rfl⟩
  have hTb : T ≤ 68719476736 := by
    have := nv_lt (wf_limbs (cman z))
    rw [nv_limbs] at this
    have := bl_le_iff.2 this
    omega
  rw [nv_limbs, ← hT] at QL
  rw [← hT]
  obtain ⟨x, hx⟩ : ∃ x, x = cexp z e := ⟨_, rfl⟩
  rw [← hx] at le1 le2 ⊢
  have hw3 : IntKind.i64.wrap (IntKind.i64.wrap (x + T) - 1) = x + T - 1 := by rw [show IntKind.i64.wrap (x + T) = x + T from wrap_i64 (by omega) (by omega)]; exact wrap_i64 (by omega) (by omega)
  clear hC hT hx
  go_enter Try.func15, Try.ntmps15
  go_wp2
  go_region_with (go_at_call 16; refine (QL.out _ ?hB).mono ?_; (case hB => first | exact below_alloc (Below.refl _ _) _ | exact below_drew (below_alloc (Below.refl _ _) _) | exact pw_below_drewN (below_alloc (Below.refl _ _) _) _); rintro e w1 ⟨rfl, hb⟩; have HB : Aside0 (Below w.heap.size w w1) := ⟨(by first | exact below_of_alloc hb | exact below_of_drew hb)⟩; have hh : w1.heap[w.heap.size]? = some (.cells #[.bool (cneg z), .slice A n c, .int .i64 x] 30 (0, 0)) := (by first | exact blk_below (blk_new _ _) hb | exact blk_below (blk_drew (blk_new _ _)) hb | exact blk_below (blk_drewN (blk_new _ _) _) hb); have c2 : w1.cell? ⟨w.heap.size, 2, none⟩ = some (.int .i64 x) := (cell_of_row w1 _ 2 _ _ _ hh).trans rfl; clear hb hh)
  all_goals
    go_wp2
    go_ret
    exact ⟨ret_int (by first | rfl | exact hw3), HB.out⟩

theorem bl_limbs (m : Nat) : bl m ≤ 64 * (limbs m).length := by
  have := nv_lt (wf_limbs m)
  rw [nv_limbs] at this
  exact bl_le_iff.2 this

set_option maxHeartbeats 4000000 in
theorem bits_any (v : Value) (z e : Int) (w : World) (h : CDy w v z e) (hl : (limbs (cman z)).length ≤ 1073741824) :
    Calls Try.prog 25 #[v] w fun en w' => en = .returned (.int .i64 ((bl (cman z) : Int) - tz (cman z))) ∧ Below w.heap.size w w' := by
  obtain ⟨A, n, c, rfl, hC, hn, hc⟩ := h
  have QL := Aside0.mk (fun (m : World) (hm : Below w.heap.size w m) => len_any (limbs (cman z)) A c m (by rw [hn]; exact Kd.C_below hC hm) (by omega) (wf_limbs _) (by omega))
  have QW := Aside0.mk (fun (m : World) (hm : Below w.heap.size w m) => low_any (limbs (cman z)) A c m (by rw [hn]; exact Kd.C_below hC hm) (by omega) (wf_limbs _) (by omega))
  rw [hn] at QL QW
  obtain ⟨T, hT⟩ : ∃ T, T = bl (cman z) := ⟨_, rfl⟩
  obtain ⟨U, hU⟩ : ∃ U, U = tz (cman z) := ⟨_, rfl⟩
  have hTb : T ≤ 68719476736 := by have := bl_limbs (cman z); omega
  have hUT : U ≤ T := by
    rw [hT, hU]
    by_cases h0 : cman z = 0
    · rw [h0, tz_zero]; omega
    · exact Nat.le_of_lt (tz_lt_bl h0)
  rw [nv_limbs, ← hT] at QL
  rw [nv_limbs, ← hU] at QW
  rw [← hT, ← hU]
  obtain ⟨x, hx⟩ : ∃ x, x = cexp z e := ⟨_, rfl⟩
  rw [← hx]
  have hw3 : IntKind.i64.wrap ((T : Int) - U) = T - U := wrap_i64 (by omega) (by omega)
  clear hC hT hU hx
  go_enter Try.func25, Try.ntmps25
  go_wp2
  go_region_with (first
    | (go_at_call 16; refine (QL.out _ ?hB).mono ?_; (case hB => first | exact below_alloc (Below.refl _ _) _ | exact below_drew (below_alloc (Below.refl _ _) _) | assumption); rintro e w1 ⟨rfl, hb⟩; have HB : Below w.heap.size w w1 := (by first | exact below_of_alloc hb | exact below_of_drew hb | exact below_then (by assumption) (Below.size (by assumption)) hb); have hh : w1.heap[w.heap.size]? = some (.cells #[.bool (cneg z), .slice A n c, .int .i64 x] 30 (0, 0)) := (by first | exact blk_below (blk_new _ _) hb | exact blk_below (blk_drew (blk_new _ _)) hb | exact blk_below (by assumption) hb); have c1 : w1.cell? ⟨w.heap.size, 1, none⟩ = some (.slice A n c) := (cell_of_row w1 _ 1 _ _ _ hh).trans rfl; clear hb)
    | (go_at_call 47; refine (QW.out _ ?hB).mono ?_; (case hB => first | exact below_alloc (Below.refl _ _) _ | exact below_drew (below_alloc (Below.refl _ _) _) | assumption); rintro e w2 ⟨rfl, hb⟩; have HB2 : Below w.heap.size w w2 := (by first | exact below_of_alloc hb | exact below_of_drew hb | exact below_then (by assumption) (Below.size (by assumption)) hb); have hh2 : w2.heap[w.heap.size]? = some (.cells #[.bool (cneg z), .slice A n c, .int .i64 x] 30 (0, 0)) := (by first | exact blk_below (blk_new _ _) hb | exact blk_below (blk_drew (blk_new _ _)) hb | exact blk_below (by assumption) hb); have c2 : w2.cell? ⟨w.heap.size, 1, none⟩ = some (.slice A n c) := (cell_of_row w2 _ 1 _ _ _ hh2).trans rfl; clear hb))
  all_goals
    go_wp2
    go_ret
    exact ⟨ret_int (by first | rfl | exact hw3), by assumption⟩
end Go.Proofs.Ytplkmbdoecepeaa
