/- 'x, y := One(a), One(b)': what stands while its region draws its order. -/
import Derived.Test.YtplkmbdoecepeaaRef4c
import Derived.Test.YtplkmbdoecepeaaReg
namespace Go.Proofs.Ytplkmbdoecepeaa
open Go.RowKit Go.Proofs.YtplkmbdoecepeaaW.PrintWords Limb
set_option linter.unusedVariables false
set_option linter.unusedSimpArgs false

/-- One, of a number in its form. -/
theorem one_dy (v : Value) (z e : Int) (w : World) (h : CDy w v z e) (hl : (limbs (cman z)).length ≤ 1073741824) (le1 : -1099511627776 ≤ cexp z e) (le2 : cexp z e ≤ 1099511627776) :
    Calls Try.prog 41 #[v] w fun en w' => ∃ v', en = .returned v' ∧ RDy w' w.heap.size v' z e ∧ Below w.heap.size w w' := by
  obtain ⟨A, n, c, rfl, hC, hn, hc⟩ := h
  refine (one_any (cneg z) (limbs (cman z)) A n c (cexp z e) hn w hC hc (wf_limbs _) (by omega) le1 le2).mono ?_
  rintro en w' ⟨v', rfl, hr, hb⟩
  refine ⟨v', rfl, ?_, hb⟩
  rw [nv_limbs] at hr
  by_cases h0 : z = 0
  · subst h0
    rw [cman_zero, sgn_zero] at hr
    obtain ⟨A2, n2, c2, rfl, hr2⟩ := hr
    exact ⟨A2, n2, c2, rfl, hr2⟩
  · obtain ⟨k, e1, e2, _⟩ := of_form (e := e) h0
    rw [e1] at hr
    have := RDy.scale k hr
    rw [← sgn_pow, ← e2] at this
    exact this

theorem get_ne {L : Array Bool} {i j : Nat} (h : i ≠ j) : (L.setIfInBounds i true).getD j false = L.getD j false := by
  simp [Array.getD_eq_getD_getElem?, Array.getElem?_setIfInBounds_ne h]
theorem get_eq {L : Array Bool} {i : Nat} (h : i < L.size) : (L.setIfInBounds i true).getD i false = true := by
  simp [Array.getD_eq_getD_getElem?, Array.getElem?_setIfInBounds_self_of_lt h]

theorem not_listed {L : Array Bool} {i : Nat} (h : L.getD i true = false) : L.getD i false = false := by
  by_cases hi : i < L.size
  · simp [Array.getD, hi] at h ⊢; exact h
  · simp [Array.getD, hi] at h
section
variable {P : Program} {o : Oper} {a : Act} {Q : Exit → Act → World → Prop} {K : Act → World → Prop}
/-- A struct laid into its box, in a region that draws. -/
theorem wp_store_box {W : World} (t : TypeId) (p : Tmp) (x : Operand) (ho : o.op = .store t (.tmp p) x) (hN : o.dst = none) {g : Nat} {cur : Array Value} {e : TypeId} (u : Value) (seg : List Value)
    (haddr : a.eval (.tmp p) = .pointer (some ⟨g, 0, none⟩)) (hx : a.eval x = u) (hu : u.cells.toList = seg) (ht : (P.info? t).map (·.size) = some seg.length) (h1 : ∀ q ∈ seg, q.oneCell' = true)
    (hh : W.heap[g]? = some (.cells cur e (0, 0))) (hlen : cur.size = seg.length)
    (h : ∀ w1, w1.heap[g]? = some (.cells seg.toArray e (0, 0)) → W.grownBy w1 (some g) → K a w1) : Oper.wp P o a W K Q := by
  have hst := run_store_run (P := P) t u seg hh hu ht (o := 0) (by omega) h1
  have hrun : (execOp a.eval o).run P W = .ok .skip (W.setCells g 0 seg) := by simp [execOp, ho, haddr, hx, hst]
  unfold Oper.wp
  rw [hrun]
  show K (a.put o.dst undef) _
  rw [hN]
  obtain ⟨cur', h3, h4, h5⟩ := setCells_row seg 0 W cur hh (by omega)
  obtain ⟨s1, s2, s3, s4⟩ := setCells_same g seg 0 W
  refine h _ ?_ ⟨s1, s2, s3, by rw [s4]; exact Nat.le_refl _, fun k _ hk => setCells_far seg _ k (fun he => hk (by rw [he]))⟩
  rw [h3]
  have : cur' = seg.toArray := by
    apply Array.toList_inj.1
    rw [h5]; simp
    omega
  rw [this]
end
/-- A box is written, of another type than its words. -/
theorem RDy.typed {w w1 : World} {b g : Nat} {v : Value} {z e : Int} {cs : Array Value} (h : RDy w b v z e) (hh : w.heap[g]? = some (.cells cs 30 (0, 0))) (hg : w.grownBy w1 (some g)) : RDy w1 b v z e := by
  obtain ⟨A, n, c, rfl, hr⟩ := h
  refine ⟨A, n, c, rfl, Kd.R_mono (Kd.R_grown (Kd.R_bound hr) hg ?_) (fun _ _ => trivial)⟩
  rintro k ⟨_, _, _, q, hq, cells, hc⟩ he
  cases he
  rw [hh] at hc
  have h30 : q = 30 := by injection hc with hc; injection hc with _ hc; exact hc.symm
  subst h30
  have hq' : (30 : Nat) ∈ (48 : Nat) :: kU.E := hq
  simp [kU, Kd.scalar] at hq'

structure Box (W0 W : World) (v5 v8 : Value) (st : Bool) : Prop where
  box : ∃ g cs, v5 = .pointer (some ⟨g, 0, none⟩) ∧ W0.heap.size ≤ g ∧ W.heap[g]? = some (.cells cs 30 (0, 0)) ∧ cs.size = 3 ∧ (st = true → v8 = .agg cs)

structure OO (W0 : World) (uu vv : Value) (y e z e' : Int) (L : Array Bool) (W : World) (v5 v6 v7 v8 v9 v10 : Value) : Prop where
  below : Below W0.heap.size W0 W
  l0 : L.getD 0 false = true → v7 = uu
  l2 : L.getD 2 false = true → v9 = vv
  l1 : L.getD 1 false = true → RDy W W0.heap.size v8 y e
  l3 : L.getD 3 false = true → RDy W W0.heap.size v10 z e'
  l4 : L.getD 4 false = true → Box W0 W v5 v8 (L.getD 6 false)
  l5 : L.getD 5 false = true → Box W0 W v6 v10 (L.getD 7 false)
  ne : L.getD 4 false = true → L.getD 5 false = true → v5 ≠ v6
  o6 : L.getD 6 false = true → L.getD 1 false = true ∧ L.getD 4 false = true
  o7 : L.getD 7 false = true → L.getD 3 false = true ∧ L.getD 5 false = true
  sz : L.size = 8

/-- Where a box is written. -/
theorem store_at {W0 W : World} {v5 v8 : Value} {st : Bool} (h : Box W0 W v5 v8 st) : ∃ g cs, v5 = .pointer (some ⟨g, 0, none⟩) ∧ W0.heap.size ≤ g ∧ W.heap[g]? = some (.cells cs 30 (0, 0)) ∧ cs.size = 3 := by
  obtain ⟨g, cs, h1, h2, h3, h4, _⟩ := h.box
  exact ⟨g, cs, h1, h2, h3, h4⟩
theorem Box.step {W0 W W' : World} {v5 v8 : Value} {st : Bool} (h : Box W0 W v5 v8 st) (hb : Below W.heap.size W W') : Box W0 W' v5 v8 st := by
  obtain ⟨g, cs, h1, h2, h3, h4, h5⟩ := h.box
  exact ⟨g, cs, h1, h2, blk_below h3 hb, h4, h5⟩
theorem Box.lt {W0 W : World} {v5 v8 : Value} {st : Bool} (h : Box W0 W v5 v8 st) {g : Nat} (hv : v5 = .pointer (some ⟨g, 0, none⟩)) : g < W.heap.size := by
  obtain ⟨g', cs, h1, h2, h3, h4, h5⟩ := h.box
  rw [h1] at hv; injection hv with hv; injection hv with hv; injection hv with hv; subst hv
  exact blk_lt h3

variable {W0 W : World} {uu vv : Value} {y e z e' : Int} {L : Array Bool} {v5 v6 v7 v8 v9 v10 : Value}
theorem OO.load0 (h : OO W0 uu vv y e z e' L W v5 v6 v7 v8 v9 v10) : OO W0 uu vv y e z e' (L.setIfInBounds 0 true) W v5 v6 uu v8 v9 v10 := by
  have o6 := h.o6
  have o7 := h.o7
  have sz := h.sz
  obtain ⟨a, b, c, d, f, g, i, j, _, _, _⟩ := h
  exact ⟨a, fun _ => rfl, by rwa [get_ne (by decide)], by rwa [get_ne (by decide)], by rwa [get_ne (by decide)], by rwa [get_ne (by decide), get_ne (by decide)], by rwa [get_ne (by decide), get_ne (by decide)], by rwa [get_ne (by decide), get_ne (by decide)], fun hm => ⟨(get_ne (by decide)).trans (o6 ((get_ne (by decide)).symm.trans hm)).1, (get_ne (by decide)).trans (o6 ((get_ne (by decide)).symm.trans hm)).2⟩, fun hm => ⟨(get_ne (by decide)).trans (o7 ((get_ne (by decide)).symm.trans hm)).1, (get_ne (by decide)).trans (o7 ((get_ne (by decide)).symm.trans hm)).2⟩, by simp [sz]⟩
theorem OO.load2 (h : OO W0 uu vv y e z e' L W v5 v6 v7 v8 v9 v10) : OO W0 uu vv y e z e' (L.setIfInBounds 2 true) W v5 v6 v7 v8 vv v10 := by
  have o6 := h.o6
  have o7 := h.o7
  have sz := h.sz
  obtain ⟨a, b, c, d, f, g, i, j, _, _, _⟩ := h
  exact ⟨a, by rwa [get_ne (by decide)], fun _ => rfl, by rwa [get_ne (by decide)], by rwa [get_ne (by decide)], by rwa [get_ne (by decide), get_ne (by decide)], by rwa [get_ne (by decide), get_ne (by decide)], by rwa [get_ne (by decide), get_ne (by decide)], fun hm => ⟨(get_ne (by decide)).trans (o6 ((get_ne (by decide)).symm.trans hm)).1, (get_ne (by decide)).trans (o6 ((get_ne (by decide)).symm.trans hm)).2⟩, fun hm => ⟨(get_ne (by decide)).trans (o7 ((get_ne (by decide)).symm.trans hm)).1, (get_ne (by decide)).trans (o7 ((get_ne (by decide)).symm.trans hm)).2⟩, by simp [sz]⟩
theorem OO.call1 (h : OO W0 uu vv y e z e' L W v5 v6 v7 v8 v9 v10) (hn : L.getD 1 false = false) {W' : World} {v : Value} (hr : RDy W' W.heap.size v y e) (hb : Below W.heap.size W W') : OO W0 uu vv y e z e' (L.setIfInBounds 1 true) W' v5 v6 v7 v v9 v10 := by
  have o6 := h.o6
  have o7 := h.o7
  have sz := h.sz
  have h6 : L.getD 6 false = false := by
    cases hc' : L.getD 6 false with
    | false => rfl
    | true => have := (o6 hc').1; rw [hn] at this; cases this
  obtain ⟨a, b, c, d, f, g, i, j, _, _, _⟩ := h
  refine ⟨below_then a a.size hb, by rwa [get_ne (by decide)], by rwa [get_ne (by decide)], fun _ => hr.lower a.size, ?_, ?_, ?_, by rwa [get_ne (by decide), get_ne (by decide)], fun hm => ⟨get_eq (by omega), (get_ne (by decide)).trans (o6 ((get_ne (by decide)).symm.trans hm)).2⟩, fun hm => ⟨(get_ne (by decide)).trans (o7 ((get_ne (by decide)).symm.trans hm)).1, (get_ne (by decide)).trans (o7 ((get_ne (by decide)).symm.trans hm)).2⟩, by simp [sz]⟩
  · rw [get_ne (by decide)]; exact fun h => (f h).below hb
  · rw [get_ne (by decide), get_ne (by decide)]
    intro h
    obtain ⟨g', cs, h1, h2, h3, h4, h5⟩ := ((g h).step hb).box
    exact ⟨g', cs, h1, h2, h3, h4, fun h => by rw [h6] at h; cases h⟩
  · rw [get_ne (by decide), get_ne (by decide)]; exact fun h => (i h).step hb
theorem OO.call3 (h : OO W0 uu vv y e z e' L W v5 v6 v7 v8 v9 v10) (hn : L.getD 3 false = false) {W' : World} {v : Value} (hr : RDy W' W.heap.size v z e') (hb : Below W.heap.size W W') : OO W0 uu vv y e z e' (L.setIfInBounds 3 true) W' v5 v6 v7 v8 v9 v := by
  have o6 := h.o6
  have o7 := h.o7
  have sz := h.sz
  have h7 : L.getD 7 false = false := by
    cases hc' : L.getD 7 false with
    | false => rfl
    | true => have := (o7 hc').1; rw [hn] at this; cases this
  obtain ⟨a, b, c, d, f, g, i, j, _, _, _⟩ := h
  refine ⟨below_then a a.size hb, by rwa [get_ne (by decide)], by rwa [get_ne (by decide)], ?_, fun _ => hr.lower a.size, ?_, ?_, by rwa [get_ne (by decide), get_ne (by decide)], fun hm => ⟨(get_ne (by decide)).trans (o6 ((get_ne (by decide)).symm.trans hm)).1, (get_ne (by decide)).trans (o6 ((get_ne (by decide)).symm.trans hm)).2⟩, fun hm => ⟨get_eq (by omega), (get_ne (by decide)).trans (o7 ((get_ne (by decide)).symm.trans hm)).2⟩, by simp [sz]⟩
  · rw [get_ne (by decide)]; exact fun h => (d h).below hb
  · rw [get_ne (by decide), get_ne (by decide)]; exact fun h => (g h).step hb
  · rw [get_ne (by decide), get_ne (by decide)]
    intro h
    obtain ⟨g', cs, h1, h2, h3, h4, h5⟩ := ((i h).step hb).box
    exact ⟨g', cs, h1, h2, h3, h4, fun h => by rw [h7] at h; cases h⟩
theorem OO.alloc4 (h : OO W0 uu vv y e z e' L W v5 v6 v7 v8 v9 v10) (hn : L.getD 4 false = false) {cs : Array Value} (hc : cs.size = 3) : OO W0 uu vv y e z e' (L.setIfInBounds 4 true) (W.alloc (.cells cs 30)) (.pointer (some ⟨W.heap.size, 0, none⟩)) v6 v7 v8 v9 v10 := by
  have o6 := h.o6
  have o7 := h.o7
  have sz := h.sz
  have h6 : L.getD 6 false = false := by
    cases hc' : L.getD 6 false with
    | false => rfl
    | true => have := (o6 hc').2; rw [hn] at this; cases this
  obtain ⟨a, b, c, d, f, g, i, j, _, _, _⟩ := h
  have hb := below_alloc (Below.refl W.heap.size W) (.cells cs 30)
  refine ⟨below_alloc a _, by rwa [get_ne (by decide)], by rwa [get_ne (by decide)], ?_, ?_, ?_, ?_, ?_, fun hm => ⟨(get_ne (by decide)).trans (o6 ((get_ne (by decide)).symm.trans hm)).1, get_eq (by omega)⟩, fun hm => ⟨(get_ne (by decide)).trans (o7 ((get_ne (by decide)).symm.trans hm)).1, (get_ne (by decide)).trans (o7 ((get_ne (by decide)).symm.trans hm)).2⟩, by simp [sz]⟩
  · rw [get_ne (by decide)]; exact fun h => (d h).below hb
  · rw [get_ne (by decide)]; exact fun h => (f h).below hb
  · rw [get_ne (i := 4) (j := 6) (by decide)]
    exact fun _ => ⟨_, cs, rfl, a.size, blk_new _ _, hc, fun h => by rw [h6] at h; cases h⟩
  · rw [get_ne (by decide), get_ne (by decide)]; exact fun h => (i h).step hb
  · rw [get_ne (i := 4) (j := 5) (by decide)]
    intro _ h he
    have := (i h).lt he.symm
    omega
theorem OO.alloc5 (h : OO W0 uu vv y e z e' L W v5 v6 v7 v8 v9 v10) (hn : L.getD 5 false = false) {cs : Array Value} (hc : cs.size = 3) : OO W0 uu vv y e z e' (L.setIfInBounds 5 true) (W.alloc (.cells cs 30)) v5 (.pointer (some ⟨W.heap.size, 0, none⟩)) v7 v8 v9 v10 := by
  have o6 := h.o6
  have o7 := h.o7
  have sz := h.sz
  have h7 : L.getD 7 false = false := by
    cases hc' : L.getD 7 false with
    | false => rfl
    | true => have := (o7 hc').2; rw [hn] at this; cases this
  obtain ⟨a, b, c, d, f, g, i, j, _, _, _⟩ := h
  have hb := below_alloc (Below.refl W.heap.size W) (.cells cs 30)
  refine ⟨below_alloc a _, by rwa [get_ne (by decide)], by rwa [get_ne (by decide)], ?_, ?_, ?_, ?_, ?_, fun hm => ⟨(get_ne (by decide)).trans (o6 ((get_ne (by decide)).symm.trans hm)).1, (get_ne (by decide)).trans (o6 ((get_ne (by decide)).symm.trans hm)).2⟩, fun hm => ⟨(get_ne (by decide)).trans (o7 ((get_ne (by decide)).symm.trans hm)).1, get_eq (by omega)⟩, by simp [sz]⟩
  · rw [get_ne (by decide)]; exact fun h => (d h).below hb
  · rw [get_ne (by decide)]; exact fun h => (f h).below hb
  · rw [get_ne (by decide), get_ne (by decide)]; exact fun h => (g h).step hb
  · rw [get_ne (i := 5) (j := 7) (by decide)]
    exact fun _ => ⟨_, cs, rfl, a.size, blk_new _ _, hc, fun h => by rw [h7] at h; cases h⟩
  · rw [get_ne (i := 5) (j := 4) (by decide)]
    intro h _ he
    have := (g h).lt he
    omega
/-- A box that is written: another one is as it was. -/
theorem Box.other {W0 W W' : World} {v6 v10 : Value} {st : Bool} {g : Nat} (h : Box W0 W v6 v10 st) (hg : W.grownBy W' (some g)) (hne : v6 ≠ .pointer (some ⟨g, 0, none⟩)) : Box W0 W' v6 v10 st := by
  obtain ⟨g', cs, h1, h2, h3, h4, h5⟩ := h.box
  refine ⟨g', cs, h1, h2, ?_, h4, h5⟩
  rw [hg.block g' (blk_lt h3) (fun he => by injection he with he; subst he; exact hne h1)]
  exact h3
theorem OO.store6 (h1' : L.getD 1 false = true) (h4' : L.getD 4 false = true) (h : OO W0 uu vv y e z e' L W v5 v6 v7 v8 v9 v10) {g : Nat} {cs cs' : Array Value} (hv : v5 = .pointer (some ⟨g, 0, none⟩)) (h4 : L.getD 4 false = true) (hh : W.heap[g]? = some (.cells cs 30 (0, 0))) (hgw : W0.heap.size ≤ g) {W' : World} (hw : W'.heap[g]? = some (.cells cs' 30 (0, 0))) (h8 : v8 = .agg cs') (hs : cs'.size = 3) (hg : W.grownBy W' (some g)) : OO W0 uu vv y e z e' (L.setIfInBounds 6 true) W' v5 v6 v7 v8 v9 v10 := by
  have o6 := h.o6
  have o7 := h.o7
  have sz := h.sz
  obtain ⟨a, b, c, d, f, k, i, j, _, _, _⟩ := h
  refine ⟨a.grown hg a.size (fun k hk => by cases hk; exact hgw), by rwa [get_ne (by decide)], by rwa [get_ne (by decide)], ?_, ?_, ?_, ?_, by rwa [get_ne (by decide), get_ne (by decide)], fun _ => ⟨(get_ne (by decide)).trans h1', (get_ne (by decide)).trans h4'⟩, fun hm => ⟨(get_ne (by decide)).trans (o7 ((get_ne (by decide)).symm.trans hm)).1, (get_ne (by decide)).trans (o7 ((get_ne (by decide)).symm.trans hm)).2⟩, by simp [sz]⟩
  · rw [get_ne (by decide)]; exact fun h => (d h).typed hh hg
  · rw [get_ne (by decide)]; exact fun h => (f h).typed hh hg
  · exact fun _ => ⟨g, cs', hv, hgw, hw, hs, fun _ => h8⟩
  · rw [get_ne (by decide), get_ne (by decide)]
    exact fun h => (i h).other hg (fun he => j h4 h (hv.trans he.symm))
theorem OO.store7 (h1' : L.getD 3 false = true) (h4' : L.getD 5 false = true) (h : OO W0 uu vv y e z e' L W v5 v6 v7 v8 v9 v10) {g : Nat} {cs cs' : Array Value} (hv : v6 = .pointer (some ⟨g, 0, none⟩)) (h5 : L.getD 5 false = true) (hh : W.heap[g]? = some (.cells cs 30 (0, 0))) (hgw : W0.heap.size ≤ g) {W' : World} (hw : W'.heap[g]? = some (.cells cs' 30 (0, 0))) (h8 : v10 = .agg cs') (hs : cs'.size = 3) (hg : W.grownBy W' (some g)) : OO W0 uu vv y e z e' (L.setIfInBounds 7 true) W' v5 v6 v7 v8 v9 v10 := by
  have o6 := h.o6
  have o7 := h.o7
  have sz := h.sz
  obtain ⟨a, b, c, d, f, k, i, j, _, _, _⟩ := h
  refine ⟨a.grown hg a.size (fun k hk => by cases hk; exact hgw), by rwa [get_ne (by decide)], by rwa [get_ne (by decide)], ?_, ?_, ?_, ?_, by rwa [get_ne (by decide), get_ne (by decide)], fun hm => ⟨(get_ne (by decide)).trans (o6 ((get_ne (by decide)).symm.trans hm)).1, (get_ne (by decide)).trans (o6 ((get_ne (by decide)).symm.trans hm)).2⟩, fun _ => ⟨(get_ne (by decide)).trans h1', (get_ne (by decide)).trans h4'⟩, by simp [sz]⟩
  · rw [get_ne (by decide)]; exact fun h => (d h).typed hh hg
  · rw [get_ne (by decide)]; exact fun h => (f h).typed hh hg
  · rw [get_ne (by decide), get_ne (by decide)]
    exact fun h => (k h).other hg (fun he => j h h5 (he.trans hv.symm))
  · exact fun _ => ⟨g, cs', hv, hgw, hw, hs, fun _ => h8⟩
/-- What the region leaves. -/
theorem OO.done (h : OO W0 uu vv y e z e' L W v5 v6 v7 v8 v9 v10) (hall : ∀ i, i < 8 → L.getD i false = true) :
    ∃ g5 g6 A1 n1 c1 A2 n2 c2, v5 = .pointer (some ⟨g5, 0, none⟩) ∧ v6 = .pointer (some ⟨g6, 0, none⟩) ∧
      W.heap[g5]? = some (.cells #[.bool (cneg y), .slice A1 n1 c1, .int .i64 (cexp y e)] 30 (0, 0)) ∧ W.heap[g6]? = some (.cells #[.bool (cneg z), .slice A2 n2 c2, .int .i64 (cexp z e')] 30 (0, 0)) ∧
      kU.R 48 W W0.heap.size (fun _ => True) (.slice A1 n1 c1) (limbs (cman y)) ∧ kU.R 48 W W0.heap.size (fun _ => True) (.slice A2 n2 c2) (limbs (cman z)) ∧ Below W0.heap.size W0 W ∧ W0.heap.size ≤ g5 ∧ W0.heap.size ≤ g6 := by
  obtain ⟨g5, cs, h1, h2, h3, h4, h5⟩ := (h.l4 (hall 4 (by decide))).box
  obtain ⟨g6, cs', h1', h2', h3', h4', h5'⟩ := (h.l5 (hall 5 (by decide))).box
  obtain ⟨A1, n1, c1, e1, r1⟩ := h.l1 (hall 1 (by decide))
  obtain ⟨A2, n2, c2, e2, r2⟩ := h.l3 (hall 3 (by decide))
  have e3 := h5 (hall 6 (by decide))
  have e3' := h5' (hall 7 (by decide))
  rw [e1] at e3; injection e3 with e3; subst e3
  rw [e2] at e3'; injection e3' with e3'; subst e3'
  exact ⟨g5, g6, A1, n1, c1, A2, n2, c2, h1, h1', h3, h3', r1, r2, h.below, h2, h2'⟩
theorem row_typed {w w1 : World} {b g : Nat} {v : Value} {xs : List Nat} {cs : Array Value} (h : kU.R 48 w b (fun _ => True) v xs) (hh : w.heap[g]? = some (.cells cs 30 (0, 0))) (hg : w.grownBy w1 (some g)) : kU.R 48 w1 b (fun _ => True) v xs := by
  refine Kd.R_mono (Kd.R_grown (Kd.R_bound h) hg ?_) (fun _ _ => trivial)
  rintro k ⟨_, _, _, q, hq, cells, hc⟩ he
  cases he
  rw [hh] at hc
  have h30 : q = 30 := by injection hc with hc; injection hc with _ hc; exact hc.symm
  subst h30
  have hq' : (30 : Nat) ∈ (48 : Nat) :: kU.E := hq
  simp [kU, Kd.scalar] at hq'
/-- A product, from the forms of what is multiplied. -/
theorem times_form {w : World} {b : Nat} {v : Value} {y z e e' : Int} (h : RDy w b v (sgn (cneg y != cneg z) (cman y * cman z)) (cexp y e + cexp z e')) : RDy w b v (y * z) (e + e') := by
  by_cases hy : y = 0
  · subst hy
    rw [cman_zero, Nat.zero_mul, sgn_zero] at h
    rw [Int.zero_mul]
    obtain ⟨A, n, c, rfl, hr⟩ := h
    exact ⟨A, n, c, rfl, hr⟩
  by_cases hz : z = 0
  · subst hz
    rw [cman_zero, Nat.mul_zero, sgn_zero] at h
    rw [Int.mul_zero]
    obtain ⟨A, n, c, rfl, hr⟩ := h
    exact ⟨A, n, c, rfl, hr⟩
  obtain ⟨j, e1, e2, _⟩ := of_form (e := e) hy
  obtain ⟨k, f1, f2, _⟩ := of_form (e := e') hz
  rw [e1, f1, show e + (j : Int) + (e' + k) = e + e' + ((j + k : Nat) : Int) by omega] at h
  have := RDy.scale (j + k) h
  rw [sgn_mul] at this
  have e3 : y * z = sgn (cneg y) (cman y) * sgn (cneg z) (cman z) * 2 ^ (j + k) := by
    conv => lhs; rw [e2, f2]
    rw [sgn_pow, sgn_pow, Int.pow_add]
    generalize sgn (cneg y) (cman y) = p
    generalize sgn (cneg z) (cman z) = q
    grind
  rw [e3]
  exact this
end Go.Proofs.Ytplkmbdoecepeaa
