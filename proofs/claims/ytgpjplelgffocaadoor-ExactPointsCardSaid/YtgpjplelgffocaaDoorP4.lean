/- Part 4 of the library of this claim: what the program and the document compute, as contracts of their functions. -/
import Derived.Test.YtgpjplelgffocaaDoorP3
import Derived.KernelRfl
namespace Go.Proofs.YtgpjplelgffocaaDoor
open Go.RowKit Go.Proofs.YtgpjplelgffocaaDoorW.PrintWords Limb
set_option linter.unusedVariables false
set_option linter.unusedSimpArgs false

/-- A map of the cases' function values, in the order of its keys. -/
def MapC (w : World) (b m : Nat) (Gs : List (Int → Option (Int × Int))) : Prop := ∃ L, MapB w m L ∧ L.length = Gs.length ∧ ∀ (i : Nat) (v : Value) (G : Int → Option (Int × Int)), L[i]? = some v → Gs[i]? = some G → IsClo w b v G
theorem MapC.new (w : World) (b : Nat) : MapC (w.alloc (.map #[] 0)) b w.heap.size [] := ⟨[], MapB.new w, rfl, fun i v G h => by cases h⟩
theorem MapC.later {w w1 : World} {b m : Nat} {Gs : List (Int → Option (Int × Int))} (h : MapC w b m Gs) (hb : Below w.heap.size w w1) : MapC w1 b m Gs := by
  obtain ⟨L, h1, h2, h3⟩ := h
  exact ⟨L, h1.below hb, h2, fun i v G hv hG => (h3 i v G hv hG).later hb⟩
theorem MapC.blk {w : World} {b m : Nat} {Gs : List (Int → Option (Int × Int))} (h : MapC w b m Gs) : ∃ es cl, w.heap[m]? = some (.map es cl) := by
  obtain ⟨L, ⟨es, cl, h1, _⟩, _⟩ := h
  exact ⟨es, cl, h1⟩
theorem ins_fact {W : World} {k : Int} {xv : Value} {b m : Nat} {Gs : List (Int → Option (Int × Int))} {G : Int → Option (Int × Int)} (hM : MapC W b m Gs) (hC : IsClo W b xv G) (hk : k = (Gs.length : Int) + 1) :
    ∃ w1, (Instr.mapUpdate 56 (.map (some m)) (.int .u8 k) xv).run Tryd.prog W = .ok () w1 ∧ MapC w1 b m (Gs ++ [G]) ∧ W.grownBy w1 (some m) := by
  obtain ⟨L, h1, h2, h3⟩ := hM
  obtain ⟨w1, e1, e2, e3⟩ := map_insert (v := xv) h1 (k := k) (by rw [hk, h2])
  refine ⟨w1, e1, ?_, e3⟩
  obtain ⟨es, cl, hb, _⟩ := h1
  refine ⟨_, e2, by simp [h2], fun i v G' hv hG => ?_⟩
  rcases Nat.lt_or_ge i L.length with hi | hi
  · rw [List.getElem?_append_left hi] at hv
    rw [List.getElem?_append_left (by omega)] at hG
    exact (h3 i v G' hv hG).grown_map hb e3
  · rw [List.getElem?_append_right hi] at hv
    rw [List.getElem?_append_right (by omega)] at hG
    rw [h2] at hv
    cases hj : i - Gs.length with
    | zero =>
      rw [hj] at hv hG
      obtain rfl := Option.some.inj hv
      obtain rfl := Option.some.inj hG
      exact hC.grown_map hb e3
    | succ j => rw [hj] at hv; cases hv
theorem IsClo.shape {w : World} {b : Nat} {v : Value} {G : Int → Option (Int × Int)} (h : IsClo w b v G) : ∃ n cap, v = .func (.func n) #[] cap := by
  cases h <;> exact ⟨_, _, rfl⟩
theorem clo_map {w w1 : World} {b m : Nat} {v : Value} {G : Int → Option (Int × Int)} {Gs : List (Int → Option (Int × Int))} (h : IsClo w b v G) (hM : MapC w b m Gs) (hg : w.grownBy w1 (some m)) : IsClo w1 b v G := by
  obtain ⟨es, cl, hb⟩ := hM.blk
  exact h.grown_map hb hg
def sineK (k r : Int) : Option (Int × Int) := if r = 0 then some (sel 0 1 0 (-1) k, 0) else none
def cosineK (k r : Int) : Option (Int × Int) := if r = 0 then some (sel 1 0 (-1) 0 k, 0) else none
def tangentK (k r : Int) : Option (Int × Int) := tanF k r (2 ^ 1072)
def caseL : List (Int → Option (Int × Int)) := [atF 0 (1, 0), pow2F 0 (-16384) 16384, pow10F 0 0 23, atF 0 (0, 0), pow2F 1 (-54) 54, pow10F 1 0 16, atF 1 (0, 0), lg2F 0, lg10F 0 22, atF 0 (0, 0), lg2F 1, lg10F 1 16, atF 0 (0, 0), atF 0 (1, 0), atF 0 (0, 0), turnF sineK, turnF cosineK, turnF tangentK, atF 0 (0, 0), atF 1 (0, 0), atF 0 (0, 0), or3 (atF 0 (0, 0)) (atF 1 (1, 0 + -1)) (atF (-1) (-1, 0 + -1)), or3 (atF 1 (0, 0)) (atF 0 (1, 0 + -1)) (atF (-1) (1, 0)), or3 (atF 0 (0, 0)) (atF 1 (1, 0 + -2)) (atF (-1) (-1, 0 + -2)), atF 0 (0, 0), atF 0 (1, 0), atF 0 (0, 0), atF 0 (0, 0), atF 1 (0, 0), atF 0 (0, 0)]

set_option maxRecDepth 100000 in
set_option maxHeartbeats 8000000 in
theorem cases_any (w : World) (hT : TabAt 0 Lib.deBruijn64tab w) :
    Calls Tryd.prog 31 #[] w fun en w' => ∃ m, en = .returned (.map (some m)) ∧ MapC w' w.heap.size m caseL ∧ Below w.heap.size w w' := by
  have HT := Aside0.mk hT
  have hmm := @run_makeMap
  clear hT
  have BEL := Aside0.mk (BelN.zero w)
  go_enter Tryd.func31, Tryd.ntmps31
  go_wp2_with fail
  go_at_call 46
  refine (whole_any (0) _ (by decide) (by decide) (tab_below HT.out BEL.out.1)).mono ?_
  rintro en1 w1 ⟨v1, rfl, hr, hb⟩
  have hl := hr.lower (Nat.le_trans (Nat.le_add_right _ _) BEL.out.2)
  replace BEL := Aside0.mk (BEL.out.next hb)
  have T1 := Aside0.mk hl
  clear hr hb hl
  go_wp2_with fail
  go_at_call 53
  refine (at_fn (n := 0) _ T1.out (by decide)).mono ?_
  rintro en2 w2 ⟨v2, rfl, hr, hb⟩
  replace BEL := Aside0.mk (BEL.out.next hb)
  replace T1 := Aside0.mk (T1.out.below hb)
  obtain ⟨n2, c2, rfl⟩ := hr.shape
  have CZ := Aside0.mk hr
  clear hr hb
  clear T1
  go_wp2_with fail
  go_at_call 46
  refine (whole_any (1) _ (by decide) (by decide) (tab_below HT.out BEL.out.1)).mono ?_
  rintro en3 w3 ⟨v3, rfl, hr, hb⟩
  have hl := hr.lower (Nat.le_trans (Nat.le_add_right _ _) BEL.out.2)
  replace BEL := Aside0.mk (BEL.out.next hb)
  replace CZ := Aside0.mk (CZ.out.later hb)
  have T1 := Aside0.mk hl
  clear hr hb hl
  go_wp2_with fail
  go_at_call 53
  refine (at_fn (n := 0) _ T1.out (by decide)).mono ?_
  rintro en4 w4 ⟨v4, rfl, hr, hb⟩
  replace BEL := Aside0.mk (BEL.out.next hb)
  replace CZ := Aside0.mk (CZ.out.later hb)
  replace T1 := Aside0.mk (T1.out.below hb)
  obtain ⟨n4, c4, rfl⟩ := hr.shape
  have CO := Aside0.mk hr
  clear hr hb
  clear T1
  have LM := Aside0.mk (show w.heap.size ≤ w4.heap.size from BEL.out.1.size)
  replace BEL := Aside0.mk (BEL.out.next (below_alloc (Below.refl _ _) (.map #[] 0)))
  replace CZ := Aside0.mk (CZ.out.later (below_alloc (Below.refl _ _) (.map #[] 0)))
  replace CO := Aside0.mk (CO.out.later (below_alloc (Below.refl _ _) (.map #[] 0)))
  have MC := Aside0.mk (MapC.new w4 w.heap.size)
  obtain ⟨wi1, hi1, hmc, hgi⟩ := ins_fact (k := 1) MC.out CO.out (by rfl)
  replace BEL := Aside0.mk (BEL.out.grown hgi LM.out)
  replace CZ := Aside0.mk (clo_map CZ.out MC.out hgi)
  replace CO := Aside0.mk (clo_map CO.out MC.out hgi)
  replace MC := Aside0.mk hmc
  clear hmc hgi
  go_wp2_with fail
  clear hi1
  go_at_call 54
  refine (power2_fn (b := w.heap.size) _ (by decide) (by decide) (by decide) (by decide) (by decide)).mono ?_
  rintro en5 w5 ⟨v5, rfl, hr, hb⟩
  replace BEL := Aside0.mk (BEL.out.next hb)
  replace MC := Aside0.mk (MC.out.later hb)
  replace CZ := Aside0.mk (CZ.out.later hb)
  replace CO := Aside0.mk (CO.out.later hb)
  obtain ⟨n5, c5, rfl⟩ := hr.shape
  have C9 := Aside0.mk hr
  clear hr hb
  obtain ⟨wi2, hi2, hmc, hgi⟩ := ins_fact (k := 2) MC.out C9.out (by rfl)
  replace BEL := Aside0.mk (BEL.out.grown hgi LM.out)
  replace CZ := Aside0.mk (clo_map CZ.out MC.out hgi)
  replace CO := Aside0.mk (clo_map CO.out MC.out hgi)
  replace C9 := Aside0.mk (clo_map C9.out MC.out hgi)
  replace MC := Aside0.mk hmc
  clear hmc hgi
  go_wp2_with fail
  clear hi2
  clear C9
  go_at_call 54
  refine (power10_fn (b := w.heap.size) _ (by decide) (by decide) (by decide) (by decide) (by decide) (by decide) (by decide)).mono ?_
  rintro en6 w6 ⟨v6, rfl, hr, hb⟩
  replace BEL := Aside0.mk (BEL.out.next hb)
  replace MC := Aside0.mk (MC.out.later hb)
  replace CZ := Aside0.mk (CZ.out.later hb)
  replace CO := Aside0.mk (CO.out.later hb)
  obtain ⟨n6, c6, rfl⟩ := hr.shape
  have C10 := Aside0.mk hr
  clear hr hb
  obtain ⟨wi3, hi3, hmc, hgi⟩ := ins_fact (k := 3) MC.out C10.out (by rfl)
  replace BEL := Aside0.mk (BEL.out.grown hgi LM.out)
  replace CZ := Aside0.mk (clo_map CZ.out MC.out hgi)
  replace CO := Aside0.mk (clo_map CO.out MC.out hgi)
  replace C10 := Aside0.mk (clo_map C10.out MC.out hgi)
  replace MC := Aside0.mk hmc
  clear hmc hgi
  obtain ⟨wi4, hi4, hmc, hgi⟩ := ins_fact (k := 4) MC.out CZ.out (by rfl)
  replace BEL := Aside0.mk (BEL.out.grown hgi LM.out)
  replace CZ := Aside0.mk (clo_map CZ.out MC.out hgi)
  replace CO := Aside0.mk (clo_map CO.out MC.out hgi)
  replace C10 := Aside0.mk (clo_map C10.out MC.out hgi)
  replace MC := Aside0.mk hmc
  clear hmc hgi
  go_wp2_with fail
  clear hi3 hi4
  clear C10
  go_at_call 54
  refine (power2_fn (b := w.heap.size) _ (by decide) (by decide) (by decide) (by decide) (by decide)).mono ?_
  rintro en7 w7 ⟨v7, rfl, hr, hb⟩
  replace BEL := Aside0.mk (BEL.out.next hb)
  replace MC := Aside0.mk (MC.out.later hb)
  replace CZ := Aside0.mk (CZ.out.later hb)
  replace CO := Aside0.mk (CO.out.later hb)
  obtain ⟨n7, c7, rfl⟩ := hr.shape
  have C12 := Aside0.mk hr
  clear hr hb
  obtain ⟨wi5, hi5, hmc, hgi⟩ := ins_fact (k := 5) MC.out C12.out (by rfl)
  replace BEL := Aside0.mk (BEL.out.grown hgi LM.out)
  replace CZ := Aside0.mk (clo_map CZ.out MC.out hgi)
  replace CO := Aside0.mk (clo_map CO.out MC.out hgi)
  replace C12 := Aside0.mk (clo_map C12.out MC.out hgi)
  replace MC := Aside0.mk hmc
  clear hmc hgi
  go_wp2_with fail
  clear hi5
  clear C12
  go_at_call 54
  refine (power10_fn (b := w.heap.size) _ (by decide) (by decide) (by decide) (by decide) (by decide) (by decide) (by decide)).mono ?_
  rintro en8 w8 ⟨v8, rfl, hr, hb⟩
  replace BEL := Aside0.mk (BEL.out.next hb)
  replace MC := Aside0.mk (MC.out.later hb)
  replace CZ := Aside0.mk (CZ.out.later hb)
  replace CO := Aside0.mk (CO.out.later hb)
  obtain ⟨n8, c8, rfl⟩ := hr.shape
  have C13 := Aside0.mk hr
  clear hr hb
  obtain ⟨wi6, hi6, hmc, hgi⟩ := ins_fact (k := 6) MC.out C13.out (by rfl)
  replace BEL := Aside0.mk (BEL.out.grown hgi LM.out)
  replace CZ := Aside0.mk (clo_map CZ.out MC.out hgi)
  replace CO := Aside0.mk (clo_map CO.out MC.out hgi)
  replace C13 := Aside0.mk (clo_map C13.out MC.out hgi)
  replace MC := Aside0.mk hmc
  clear hmc hgi
  go_wp2_with fail
  clear hi6
  clear C13
  go_at_call 46
  refine (whole_any (0) _ (by decide) (by decide) (tab_below HT.out BEL.out.1)).mono ?_
  rintro en9 w9 ⟨v9, rfl, hr, hb⟩
  have hl := hr.lower (Nat.le_trans (Nat.le_add_right _ _) BEL.out.2)
  replace BEL := Aside0.mk (BEL.out.next hb)
  replace MC := Aside0.mk (MC.out.later hb)
  replace CZ := Aside0.mk (CZ.out.later hb)
  replace CO := Aside0.mk (CO.out.later hb)
  have T1 := Aside0.mk hl
  clear hr hb hl
  go_wp2_with fail
  go_at_call 53
  refine (at_fn (n := 1) _ T1.out (by decide)).mono ?_
  rintro en10 w10 ⟨v10, rfl, hr, hb⟩
  replace BEL := Aside0.mk (BEL.out.next hb)
  replace MC := Aside0.mk (MC.out.later hb)
  replace CZ := Aside0.mk (CZ.out.later hb)
  replace CO := Aside0.mk (CO.out.later hb)
  replace T1 := Aside0.mk (T1.out.below hb)
  obtain ⟨n10, c10, rfl⟩ := hr.shape
  have C15 := Aside0.mk hr
  clear hr hb
  clear T1
  obtain ⟨wi7, hi7, hmc, hgi⟩ := ins_fact (k := 7) MC.out C15.out (by rfl)
  replace BEL := Aside0.mk (BEL.out.grown hgi LM.out)
  replace CZ := Aside0.mk (clo_map CZ.out MC.out hgi)
  replace CO := Aside0.mk (clo_map CO.out MC.out hgi)
  replace C15 := Aside0.mk (clo_map C15.out MC.out hgi)
  replace MC := Aside0.mk hmc
  clear hmc hgi
  go_wp2_with fail
  clear hi7
  clear C15
  go_at_call 55
  refine (log2_fn (b := w.heap.size) (most := 0) _ (by decide) (by decide)).mono ?_
  rintro en11 w11 ⟨v11, rfl, hr, hb⟩
  replace BEL := Aside0.mk (BEL.out.next hb)
  replace MC := Aside0.mk (MC.out.later hb)
  replace CZ := Aside0.mk (CZ.out.later hb)
  replace CO := Aside0.mk (CO.out.later hb)
  obtain ⟨n11, c11, rfl⟩ := hr.shape
  have C16 := Aside0.mk hr
  clear hr hb
  obtain ⟨wi8, hi8, hmc, hgi⟩ := ins_fact (k := 8) MC.out C16.out (by rfl)
  replace BEL := Aside0.mk (BEL.out.grown hgi LM.out)
  replace CZ := Aside0.mk (clo_map CZ.out MC.out hgi)
  replace CO := Aside0.mk (clo_map CO.out MC.out hgi)
  replace C16 := Aside0.mk (clo_map C16.out MC.out hgi)
  replace MC := Aside0.mk hmc
  clear hmc hgi
  go_wp2_with fail
  clear hi8
  clear C16
  go_at_call 55
  refine (log10_fn (b := w.heap.size) (most := 22) _ (by decide) (by decide)).mono ?_
  rintro en12 w12 ⟨v12, rfl, hr, hb⟩
  replace BEL := Aside0.mk (BEL.out.next hb)
  replace MC := Aside0.mk (MC.out.later hb)
  replace CZ := Aside0.mk (CZ.out.later hb)
  replace CO := Aside0.mk (CO.out.later hb)
  obtain ⟨n12, c12, rfl⟩ := hr.shape
  have C17 := Aside0.mk hr
  clear hr hb
  obtain ⟨wi9, hi9, hmc, hgi⟩ := ins_fact (k := 9) MC.out C17.out (by rfl)
  replace BEL := Aside0.mk (BEL.out.grown hgi LM.out)
  replace CZ := Aside0.mk (clo_map CZ.out MC.out hgi)
  replace CO := Aside0.mk (clo_map CO.out MC.out hgi)
  replace C17 := Aside0.mk (clo_map C17.out MC.out hgi)
  replace MC := Aside0.mk hmc
  clear hmc hgi
  obtain ⟨wi10, hi10, hmc, hgi⟩ := ins_fact (k := 10) MC.out CZ.out (by rfl)
  replace BEL := Aside0.mk (BEL.out.grown hgi LM.out)
  replace CZ := Aside0.mk (clo_map CZ.out MC.out hgi)
  replace CO := Aside0.mk (clo_map CO.out MC.out hgi)
  replace C17 := Aside0.mk (clo_map C17.out MC.out hgi)
  replace MC := Aside0.mk hmc
  clear hmc hgi
  go_wp2_with fail
  clear hi9 hi10
  clear C17
  go_at_call 55
  refine (log2_fn (b := w.heap.size) (most := 0) _ (by decide) (by decide)).mono ?_
  rintro en13 w13 ⟨v13, rfl, hr, hb⟩
  replace BEL := Aside0.mk (BEL.out.next hb)
  replace MC := Aside0.mk (MC.out.later hb)
  replace CZ := Aside0.mk (CZ.out.later hb)
  replace CO := Aside0.mk (CO.out.later hb)
  obtain ⟨n13, c13, rfl⟩ := hr.shape
  have C19 := Aside0.mk hr
  clear hr hb
  obtain ⟨wi11, hi11, hmc, hgi⟩ := ins_fact (k := 11) MC.out C19.out (by rfl)
  replace BEL := Aside0.mk (BEL.out.grown hgi LM.out)
  replace CZ := Aside0.mk (clo_map CZ.out MC.out hgi)
  replace CO := Aside0.mk (clo_map CO.out MC.out hgi)
  replace C19 := Aside0.mk (clo_map C19.out MC.out hgi)
  replace MC := Aside0.mk hmc
  clear hmc hgi
  go_wp2_with fail
  clear hi11
  clear C19
  go_at_call 55
  refine (log10_fn (b := w.heap.size) (most := 16) _ (by decide) (by decide)).mono ?_
  rintro en14 w14 ⟨v14, rfl, hr, hb⟩
  replace BEL := Aside0.mk (BEL.out.next hb)
  replace MC := Aside0.mk (MC.out.later hb)
  replace CZ := Aside0.mk (CZ.out.later hb)
  replace CO := Aside0.mk (CO.out.later hb)
  obtain ⟨n14, c14, rfl⟩ := hr.shape
  have C20 := Aside0.mk hr
  clear hr hb
  obtain ⟨wi12, hi12, hmc, hgi⟩ := ins_fact (k := 12) MC.out C20.out (by rfl)
  replace BEL := Aside0.mk (BEL.out.grown hgi LM.out)
  replace CZ := Aside0.mk (clo_map CZ.out MC.out hgi)
  replace CO := Aside0.mk (clo_map CO.out MC.out hgi)
  replace C20 := Aside0.mk (clo_map C20.out MC.out hgi)
  replace MC := Aside0.mk hmc
  clear hmc hgi
  obtain ⟨wi13, hi13, hmc, hgi⟩ := ins_fact (k := 13) MC.out CZ.out (by rfl)
  replace BEL := Aside0.mk (BEL.out.grown hgi LM.out)
  replace CZ := Aside0.mk (clo_map CZ.out MC.out hgi)
  replace CO := Aside0.mk (clo_map CO.out MC.out hgi)
  replace C20 := Aside0.mk (clo_map C20.out MC.out hgi)
  replace MC := Aside0.mk hmc
  clear hmc hgi
  obtain ⟨wi14, hi14, hmc, hgi⟩ := ins_fact (k := 14) MC.out CO.out (by rfl)
  replace BEL := Aside0.mk (BEL.out.grown hgi LM.out)
  replace CZ := Aside0.mk (clo_map CZ.out MC.out hgi)
  replace CO := Aside0.mk (clo_map CO.out MC.out hgi)
  replace C20 := Aside0.mk (clo_map C20.out MC.out hgi)
  replace MC := Aside0.mk hmc
  clear hmc hgi
  obtain ⟨wi15, hi15, hmc, hgi⟩ := ins_fact (k := 15) MC.out CZ.out (by rfl)
  replace BEL := Aside0.mk (BEL.out.grown hgi LM.out)
  replace CZ := Aside0.mk (clo_map CZ.out MC.out hgi)
  replace CO := Aside0.mk (clo_map CO.out MC.out hgi)
  replace C20 := Aside0.mk (clo_map C20.out MC.out hgi)
  replace MC := Aside0.mk hmc
  clear hmc hgi
  go_wp2_with fail
  clear hi12 hi13 hi14 hi15
  clear C20
  go_at_call 56
  refine (turned_fn (b := w.heap.size) (K := sineK) _ sine_fn).mono ?_
  rintro en15 w15 ⟨v15, rfl, hr, hb⟩
  replace BEL := Aside0.mk (BEL.out.next hb)
  replace MC := Aside0.mk (MC.out.later hb)
  replace CZ := Aside0.mk (CZ.out.later hb)
  replace CO := Aside0.mk (CO.out.later hb)
  obtain ⟨n15, c15, rfl⟩ := hr.shape
  have C24 := Aside0.mk hr
  clear hr hb
  obtain ⟨wi16, hi16, hmc, hgi⟩ := ins_fact (k := 16) MC.out C24.out (by rfl)
  replace BEL := Aside0.mk (BEL.out.grown hgi LM.out)
  replace CZ := Aside0.mk (clo_map CZ.out MC.out hgi)
  replace CO := Aside0.mk (clo_map CO.out MC.out hgi)
  replace C24 := Aside0.mk (clo_map C24.out MC.out hgi)
  replace MC := Aside0.mk hmc
  clear hmc hgi
  go_wp2_with fail
  clear hi16
  clear C24
  go_at_call 56
  refine (turned_fn (b := w.heap.size) (K := cosineK) _ cosine_fn).mono ?_
  rintro en16 w16 ⟨v16, rfl, hr, hb⟩
  replace BEL := Aside0.mk (BEL.out.next hb)
  replace MC := Aside0.mk (MC.out.later hb)
  replace CZ := Aside0.mk (CZ.out.later hb)
  replace CO := Aside0.mk (CO.out.later hb)
  obtain ⟨n16, c16, rfl⟩ := hr.shape
  have C25 := Aside0.mk hr
  clear hr hb
  obtain ⟨wi17, hi17, hmc, hgi⟩ := ins_fact (k := 17) MC.out C25.out (by rfl)
  replace BEL := Aside0.mk (BEL.out.grown hgi LM.out)
  replace CZ := Aside0.mk (clo_map CZ.out MC.out hgi)
  replace CO := Aside0.mk (clo_map CO.out MC.out hgi)
  replace C25 := Aside0.mk (clo_map C25.out MC.out hgi)
  replace MC := Aside0.mk hmc
  clear hmc hgi
  go_wp2_with fail
  clear hi17
  clear C25
  go_at_call 56
  refine (turned_fn (b := w.heap.size) (K := tangentK) _ tangent_fn).mono ?_
  rintro en17 w17 ⟨v17, rfl, hr, hb⟩
  replace BEL := Aside0.mk (BEL.out.next hb)
  replace MC := Aside0.mk (MC.out.later hb)
  replace CZ := Aside0.mk (CZ.out.later hb)
  replace CO := Aside0.mk (CO.out.later hb)
  obtain ⟨n17, c17, rfl⟩ := hr.shape
  have C26 := Aside0.mk hr
  clear hr hb
  obtain ⟨wi18, hi18, hmc, hgi⟩ := ins_fact (k := 18) MC.out C26.out (by rfl)
  replace BEL := Aside0.mk (BEL.out.grown hgi LM.out)
  replace CZ := Aside0.mk (clo_map CZ.out MC.out hgi)
  replace CO := Aside0.mk (clo_map CO.out MC.out hgi)
  replace C26 := Aside0.mk (clo_map C26.out MC.out hgi)
  replace MC := Aside0.mk hmc
  clear hmc hgi
  obtain ⟨wi19, hi19, hmc, hgi⟩ := ins_fact (k := 19) MC.out CZ.out (by rfl)
  replace BEL := Aside0.mk (BEL.out.grown hgi LM.out)
  replace CZ := Aside0.mk (clo_map CZ.out MC.out hgi)
  replace CO := Aside0.mk (clo_map CO.out MC.out hgi)
  replace C26 := Aside0.mk (clo_map C26.out MC.out hgi)
  replace MC := Aside0.mk hmc
  clear hmc hgi
  go_wp2_with fail
  clear hi18 hi19
  clear C26
  go_at_call 46
  refine (whole_any (0) _ (by decide) (by decide) (tab_below HT.out BEL.out.1)).mono ?_
  rintro en18 w18 ⟨v18, rfl, hr, hb⟩
  have hl := hr.lower (Nat.le_trans (Nat.le_add_right _ _) BEL.out.2)
  replace BEL := Aside0.mk (BEL.out.next hb)
  replace MC := Aside0.mk (MC.out.later hb)
  replace CZ := Aside0.mk (CZ.out.later hb)
  replace CO := Aside0.mk (CO.out.later hb)
  have T1 := Aside0.mk hl
  clear hr hb hl
  go_wp2_with fail
  go_at_call 53
  refine (at_fn (n := 1) _ T1.out (by decide)).mono ?_
  rintro en19 w19 ⟨v19, rfl, hr, hb⟩
  replace BEL := Aside0.mk (BEL.out.next hb)
  replace MC := Aside0.mk (MC.out.later hb)
  replace CZ := Aside0.mk (CZ.out.later hb)
  replace CO := Aside0.mk (CO.out.later hb)
  replace T1 := Aside0.mk (T1.out.below hb)
  obtain ⟨n19, c19, rfl⟩ := hr.shape
  have C29 := Aside0.mk hr
  clear hr hb
  clear T1
  obtain ⟨wi20, hi20, hmc, hgi⟩ := ins_fact (k := 20) MC.out C29.out (by rfl)
  replace BEL := Aside0.mk (BEL.out.grown hgi LM.out)
  replace CZ := Aside0.mk (clo_map CZ.out MC.out hgi)
  replace CO := Aside0.mk (clo_map CO.out MC.out hgi)
  replace C29 := Aside0.mk (clo_map C29.out MC.out hgi)
  replace MC := Aside0.mk hmc
  clear hmc hgi
  obtain ⟨wi21, hi21, hmc, hgi⟩ := ins_fact (k := 21) MC.out CZ.out (by rfl)
  replace BEL := Aside0.mk (BEL.out.grown hgi LM.out)
  replace CZ := Aside0.mk (clo_map CZ.out MC.out hgi)
  replace CO := Aside0.mk (clo_map CO.out MC.out hgi)
  replace C29 := Aside0.mk (clo_map C29.out MC.out hgi)
  replace MC := Aside0.mk hmc
  clear hmc hgi
  go_wp2_with fail
  clear hi20 hi21
  clear C29
  go_at_call 47
  refine (part_any (1) 1 _ (by decide) (by decide) (by decide) (tab_below HT.out BEL.out.1)).mono ?_
  rintro en20 w20 ⟨v20, rfl, hr, hb⟩
  have hl := hr.lower (Nat.le_trans (Nat.le_add_right _ _) BEL.out.2)
  replace BEL := Aside0.mk (BEL.out.next hb)
  replace MC := Aside0.mk (MC.out.later hb)
  replace CZ := Aside0.mk (CZ.out.later hb)
  replace CO := Aside0.mk (CO.out.later hb)
  have T1 := Aside0.mk hl
  clear hr hb hl
  go_wp2_with fail
  go_at_call 53
  refine (at_fn (n := 1) _ T1.out (by decide)).mono ?_
  rintro en21 w21 ⟨v21, rfl, hr, hb⟩
  replace BEL := Aside0.mk (BEL.out.next hb)
  replace MC := Aside0.mk (MC.out.later hb)
  replace CZ := Aside0.mk (CZ.out.later hb)
  replace CO := Aside0.mk (CO.out.later hb)
  replace T1 := Aside0.mk (T1.out.below hb)
  obtain ⟨n21, c21, rfl⟩ := hr.shape
  have C33 := Aside0.mk hr
  clear hr hb
  clear T1
  go_wp2_with fail
  go_at_call 47
  refine (part_any (-1) 1 _ (by decide) (by decide) (by decide) (tab_below HT.out BEL.out.1)).mono ?_
  rintro en22 w22 ⟨v22, rfl, hr, hb⟩
  have hl := hr.lower (Nat.le_trans (Nat.le_add_right _ _) BEL.out.2)
  replace BEL := Aside0.mk (BEL.out.next hb)
  replace MC := Aside0.mk (MC.out.later hb)
  replace CZ := Aside0.mk (CZ.out.later hb)
  replace CO := Aside0.mk (CO.out.later hb)
  replace C33 := Aside0.mk (C33.out.later hb)
  have T1 := Aside0.mk hl
  clear hr hb hl
  go_wp2_with fail
  go_at_call 53
  refine (at_fn (n := -1) _ T1.out (by decide)).mono ?_
  rintro en23 w23 ⟨v23, rfl, hr, hb⟩
  replace BEL := Aside0.mk (BEL.out.next hb)
  replace MC := Aside0.mk (MC.out.later hb)
  replace CZ := Aside0.mk (CZ.out.later hb)
  replace CO := Aside0.mk (CO.out.later hb)
  replace C33 := Aside0.mk (C33.out.later hb)
  replace T1 := Aside0.mk (T1.out.below hb)
  obtain ⟨n23, c23, rfl⟩ := hr.shape
  have C35 := Aside0.mk hr
  clear hr hb
  clear T1
  go_wp2_with fail
  have HSL := Aside0.mk (blk_new w23 (.cells #[.func (.func n2) #[] c2, .func (.func n21) #[] c21, .func (.func n23) #[] c23] 55))
  replace BEL := Aside0.mk (BEL.out.next (below_alloc (Below.refl w23.heap.size w23) (.cells #[.func (.func n2) #[] c2, .func (.func n21) #[] c21, .func (.func n23) #[] c23] 55)))
  replace MC := Aside0.mk (MC.out.later (below_alloc (Below.refl w23.heap.size w23) (.cells #[.func (.func n2) #[] c2, .func (.func n21) #[] c21, .func (.func n23) #[] c23] 55)))
  replace CZ := Aside0.mk (CZ.out.later (below_alloc (Below.refl w23.heap.size w23) (.cells #[.func (.func n2) #[] c2, .func (.func n21) #[] c21, .func (.func n23) #[] c23] 55)))
  replace CO := Aside0.mk (CO.out.later (below_alloc (Below.refl w23.heap.size w23) (.cells #[.func (.func n2) #[] c2, .func (.func n21) #[] c21, .func (.func n23) #[] c23] 55)))
  replace C33 := Aside0.mk (C33.out.later (below_alloc (Below.refl w23.heap.size w23) (.cells #[.func (.func n2) #[] c2, .func (.func n21) #[] c21, .func (.func n23) #[] c23] 55)))
  replace C35 := Aside0.mk (C35.out.later (below_alloc (Below.refl w23.heap.size w23) (.cells #[.func (.func n2) #[] c2, .func (.func n21) #[] c21, .func (.func n23) #[] c23] 55)))
  go_at_call 60
  refine (first_fn _ HSL.out CZ.out C33.out C35.out).mono ?_
  rintro en24 w24 ⟨v24, rfl, hr, hb⟩
  replace BEL := Aside0.mk (BEL.out.next hb)
  replace MC := Aside0.mk (MC.out.later hb)
  replace CZ := Aside0.mk (CZ.out.later hb)
  replace CO := Aside0.mk (CO.out.later hb)
  replace C33 := Aside0.mk (C33.out.later hb)
  replace C35 := Aside0.mk (C35.out.later hb)
  obtain ⟨n24, c24, rfl⟩ := hr.shape
  have C37 := Aside0.mk hr
  clear hr hb
  clear HSL
  clear C33
  clear C35
  obtain ⟨wi22, hi22, hmc, hgi⟩ := ins_fact (k := 22) MC.out C37.out (by rfl)
  replace BEL := Aside0.mk (BEL.out.grown hgi LM.out)
  replace CZ := Aside0.mk (clo_map CZ.out MC.out hgi)
  replace CO := Aside0.mk (clo_map CO.out MC.out hgi)
  replace C37 := Aside0.mk (clo_map C37.out MC.out hgi)
  replace MC := Aside0.mk hmc
  clear hmc hgi
  go_wp2_with fail
  clear hi22
  clear C37
  go_at_call 46
  refine (whole_any (0) _ (by decide) (by decide) (tab_below HT.out BEL.out.1)).mono ?_
  rintro en25 w25 ⟨v25, rfl, hr, hb⟩
  have hl := hr.lower (Nat.le_trans (Nat.le_add_right _ _) BEL.out.2)
  replace BEL := Aside0.mk (BEL.out.next hb)
  replace MC := Aside0.mk (MC.out.later hb)
  replace CZ := Aside0.mk (CZ.out.later hb)
  replace CO := Aside0.mk (CO.out.later hb)
  have T1 := Aside0.mk hl
  clear hr hb hl
  go_wp2_with fail
  go_at_call 53
  refine (at_fn (n := 1) _ T1.out (by decide)).mono ?_
  rintro en26 w26 ⟨v26, rfl, hr, hb⟩
  replace BEL := Aside0.mk (BEL.out.next hb)
  replace MC := Aside0.mk (MC.out.later hb)
  replace CZ := Aside0.mk (CZ.out.later hb)
  replace CO := Aside0.mk (CO.out.later hb)
  replace T1 := Aside0.mk (T1.out.below hb)
  obtain ⟨n26, c26, rfl⟩ := hr.shape
  have C39 := Aside0.mk hr
  clear hr hb
  clear T1
  go_wp2_with fail
  go_at_call 47
  refine (part_any (1) 1 _ (by decide) (by decide) (by decide) (tab_below HT.out BEL.out.1)).mono ?_
  rintro en27 w27 ⟨v27, rfl, hr, hb⟩
  have hl := hr.lower (Nat.le_trans (Nat.le_add_right _ _) BEL.out.2)
  replace BEL := Aside0.mk (BEL.out.next hb)
  replace MC := Aside0.mk (MC.out.later hb)
  replace CZ := Aside0.mk (CZ.out.later hb)
  replace CO := Aside0.mk (CO.out.later hb)
  replace C39 := Aside0.mk (C39.out.later hb)
  have T1 := Aside0.mk hl
  clear hr hb hl
  go_wp2_with fail
  go_at_call 53
  refine (at_fn (n := 0) _ T1.out (by decide)).mono ?_
  rintro en28 w28 ⟨v28, rfl, hr, hb⟩
  replace BEL := Aside0.mk (BEL.out.next hb)
  replace MC := Aside0.mk (MC.out.later hb)
  replace CZ := Aside0.mk (CZ.out.later hb)
  replace CO := Aside0.mk (CO.out.later hb)
  replace C39 := Aside0.mk (C39.out.later hb)
  replace T1 := Aside0.mk (T1.out.below hb)
  obtain ⟨n28, c28, rfl⟩ := hr.shape
  have C41 := Aside0.mk hr
  clear hr hb
  clear T1
  go_wp2_with fail
  go_at_call 46
  refine (whole_any (1) _ (by decide) (by decide) (tab_below HT.out BEL.out.1)).mono ?_
  rintro en29 w29 ⟨v29, rfl, hr, hb⟩
  have hl := hr.lower (Nat.le_trans (Nat.le_add_right _ _) BEL.out.2)
  replace BEL := Aside0.mk (BEL.out.next hb)
  replace MC := Aside0.mk (MC.out.later hb)
  replace CZ := Aside0.mk (CZ.out.later hb)
  replace CO := Aside0.mk (CO.out.later hb)
  replace C39 := Aside0.mk (C39.out.later hb)
  replace C41 := Aside0.mk (C41.out.later hb)
  have T1 := Aside0.mk hl
  clear hr hb hl
  go_wp2_with fail
  go_at_call 53
  refine (at_fn (n := -1) _ T1.out (by decide)).mono ?_
  rintro en30 w30 ⟨v30, rfl, hr, hb⟩
  replace BEL := Aside0.mk (BEL.out.next hb)
  replace MC := Aside0.mk (MC.out.later hb)
  replace CZ := Aside0.mk (CZ.out.later hb)
  replace CO := Aside0.mk (CO.out.later hb)
  replace C39 := Aside0.mk (C39.out.later hb)
  replace C41 := Aside0.mk (C41.out.later hb)
  replace T1 := Aside0.mk (T1.out.below hb)
  obtain ⟨n30, c30, rfl⟩ := hr.shape
  have C43 := Aside0.mk hr
  clear hr hb
  clear T1
  go_wp2_with fail
  have HSL := Aside0.mk (blk_new w30 (.cells #[.func (.func n26) #[] c26, .func (.func n28) #[] c28, .func (.func n30) #[] c30] 55))
  replace BEL := Aside0.mk (BEL.out.next (below_alloc (Below.refl w30.heap.size w30) (.cells #[.func (.func n26) #[] c26, .func (.func n28) #[] c28, .func (.func n30) #[] c30] 55)))
  replace MC := Aside0.mk (MC.out.later (below_alloc (Below.refl w30.heap.size w30) (.cells #[.func (.func n26) #[] c26, .func (.func n28) #[] c28, .func (.func n30) #[] c30] 55)))
  replace CZ := Aside0.mk (CZ.out.later (below_alloc (Below.refl w30.heap.size w30) (.cells #[.func (.func n26) #[] c26, .func (.func n28) #[] c28, .func (.func n30) #[] c30] 55)))
  replace CO := Aside0.mk (CO.out.later (below_alloc (Below.refl w30.heap.size w30) (.cells #[.func (.func n26) #[] c26, .func (.func n28) #[] c28, .func (.func n30) #[] c30] 55)))
  replace C39 := Aside0.mk (C39.out.later (below_alloc (Below.refl w30.heap.size w30) (.cells #[.func (.func n26) #[] c26, .func (.func n28) #[] c28, .func (.func n30) #[] c30] 55)))
  replace C41 := Aside0.mk (C41.out.later (below_alloc (Below.refl w30.heap.size w30) (.cells #[.func (.func n26) #[] c26, .func (.func n28) #[] c28, .func (.func n30) #[] c30] 55)))
  replace C43 := Aside0.mk (C43.out.later (below_alloc (Below.refl w30.heap.size w30) (.cells #[.func (.func n26) #[] c26, .func (.func n28) #[] c28, .func (.func n30) #[] c30] 55)))
  go_at_call 60
  refine (first_fn _ HSL.out C39.out C41.out C43.out).mono ?_
  rintro en31 w31 ⟨v31, rfl, hr, hb⟩
  replace BEL := Aside0.mk (BEL.out.next hb)
  replace MC := Aside0.mk (MC.out.later hb)
  replace CZ := Aside0.mk (CZ.out.later hb)
  replace CO := Aside0.mk (CO.out.later hb)
  replace C39 := Aside0.mk (C39.out.later hb)
  replace C41 := Aside0.mk (C41.out.later hb)
  replace C43 := Aside0.mk (C43.out.later hb)
  obtain ⟨n31, c31, rfl⟩ := hr.shape
  have C45 := Aside0.mk hr
  clear hr hb
  clear HSL
  clear C39
  clear C41
  clear C43
  obtain ⟨wi23, hi23, hmc, hgi⟩ := ins_fact (k := 23) MC.out C45.out (by rfl)
  replace BEL := Aside0.mk (BEL.out.grown hgi LM.out)
  replace CZ := Aside0.mk (clo_map CZ.out MC.out hgi)
  replace CO := Aside0.mk (clo_map CO.out MC.out hgi)
  replace C45 := Aside0.mk (clo_map C45.out MC.out hgi)
  replace MC := Aside0.mk hmc
  clear hmc hgi
  go_wp2_with fail
  clear hi23
  clear C45
  go_at_call 47
  refine (part_any (1) 2 _ (by decide) (by decide) (by decide) (tab_below HT.out BEL.out.1)).mono ?_
  rintro en32 w32 ⟨v32, rfl, hr, hb⟩
  have hl := hr.lower (Nat.le_trans (Nat.le_add_right _ _) BEL.out.2)
  replace BEL := Aside0.mk (BEL.out.next hb)
  replace MC := Aside0.mk (MC.out.later hb)
  replace CZ := Aside0.mk (CZ.out.later hb)
  replace CO := Aside0.mk (CO.out.later hb)
  have T1 := Aside0.mk hl
  clear hr hb hl
  go_wp2_with fail
  go_at_call 53
  refine (at_fn (n := 1) _ T1.out (by decide)).mono ?_
  rintro en33 w33 ⟨v33, rfl, hr, hb⟩
  replace BEL := Aside0.mk (BEL.out.next hb)
  replace MC := Aside0.mk (MC.out.later hb)
  replace CZ := Aside0.mk (CZ.out.later hb)
  replace CO := Aside0.mk (CO.out.later hb)
  replace T1 := Aside0.mk (T1.out.below hb)
  obtain ⟨n33, c33, rfl⟩ := hr.shape
  have C48 := Aside0.mk hr
  clear hr hb
  clear T1
  go_wp2_with fail
  go_at_call 47
  refine (part_any (-1) 2 _ (by decide) (by decide) (by decide) (tab_below HT.out BEL.out.1)).mono ?_
  rintro en34 w34 ⟨v34, rfl, hr, hb⟩
  have hl := hr.lower (Nat.le_trans (Nat.le_add_right _ _) BEL.out.2)
  replace BEL := Aside0.mk (BEL.out.next hb)
  replace MC := Aside0.mk (MC.out.later hb)
  replace CZ := Aside0.mk (CZ.out.later hb)
  replace CO := Aside0.mk (CO.out.later hb)
  replace C48 := Aside0.mk (C48.out.later hb)
  have T1 := Aside0.mk hl
  clear hr hb hl
  go_wp2_with fail
  go_at_call 53
  refine (at_fn (n := -1) _ T1.out (by decide)).mono ?_
  rintro en35 w35 ⟨v35, rfl, hr, hb⟩
  replace BEL := Aside0.mk (BEL.out.next hb)
  replace MC := Aside0.mk (MC.out.later hb)
  replace CZ := Aside0.mk (CZ.out.later hb)
  replace CO := Aside0.mk (CO.out.later hb)
  replace C48 := Aside0.mk (C48.out.later hb)
  replace T1 := Aside0.mk (T1.out.below hb)
  obtain ⟨n35, c35, rfl⟩ := hr.shape
  have C50 := Aside0.mk hr
  clear hr hb
  clear T1
  go_wp2_with fail
  have HSL := Aside0.mk (blk_new w35 (.cells #[.func (.func n2) #[] c2, .func (.func n33) #[] c33, .func (.func n35) #[] c35] 55))
  replace BEL := Aside0.mk (BEL.out.next (below_alloc (Below.refl w35.heap.size w35) (.cells #[.func (.func n2) #[] c2, .func (.func n33) #[] c33, .func (.func n35) #[] c35] 55)))
  replace MC := Aside0.mk (MC.out.later (below_alloc (Below.refl w35.heap.size w35) (.cells #[.func (.func n2) #[] c2, .func (.func n33) #[] c33, .func (.func n35) #[] c35] 55)))
  replace CZ := Aside0.mk (CZ.out.later (below_alloc (Below.refl w35.heap.size w35) (.cells #[.func (.func n2) #[] c2, .func (.func n33) #[] c33, .func (.func n35) #[] c35] 55)))
  replace CO := Aside0.mk (CO.out.later (below_alloc (Below.refl w35.heap.size w35) (.cells #[.func (.func n2) #[] c2, .func (.func n33) #[] c33, .func (.func n35) #[] c35] 55)))
  replace C48 := Aside0.mk (C48.out.later (below_alloc (Below.refl w35.heap.size w35) (.cells #[.func (.func n2) #[] c2, .func (.func n33) #[] c33, .func (.func n35) #[] c35] 55)))
  replace C50 := Aside0.mk (C50.out.later (below_alloc (Below.refl w35.heap.size w35) (.cells #[.func (.func n2) #[] c2, .func (.func n33) #[] c33, .func (.func n35) #[] c35] 55)))
  go_at_call 60
  refine (first_fn _ HSL.out CZ.out C48.out C50.out).mono ?_
  rintro en36 w36 ⟨v36, rfl, hr, hb⟩
  replace BEL := Aside0.mk (BEL.out.next hb)
  replace MC := Aside0.mk (MC.out.later hb)
  replace CZ := Aside0.mk (CZ.out.later hb)
  replace CO := Aside0.mk (CO.out.later hb)
  replace C48 := Aside0.mk (C48.out.later hb)
  replace C50 := Aside0.mk (C50.out.later hb)
  obtain ⟨n36, c36, rfl⟩ := hr.shape
  have C52 := Aside0.mk hr
  clear hr hb
  clear HSL
  clear C48
  clear C50
  obtain ⟨wi24, hi24, hmc, hgi⟩ := ins_fact (k := 24) MC.out C52.out (by rfl)
  replace BEL := Aside0.mk (BEL.out.grown hgi LM.out)
  replace CZ := Aside0.mk (clo_map CZ.out MC.out hgi)
  replace CO := Aside0.mk (clo_map CO.out MC.out hgi)
  replace C52 := Aside0.mk (clo_map C52.out MC.out hgi)
  replace MC := Aside0.mk hmc
  clear hmc hgi
  obtain ⟨wi25, hi25, hmc, hgi⟩ := ins_fact (k := 25) MC.out CZ.out (by rfl)
  replace BEL := Aside0.mk (BEL.out.grown hgi LM.out)
  replace CZ := Aside0.mk (clo_map CZ.out MC.out hgi)
  replace CO := Aside0.mk (clo_map CO.out MC.out hgi)
  replace C52 := Aside0.mk (clo_map C52.out MC.out hgi)
  replace MC := Aside0.mk hmc
  clear hmc hgi
  obtain ⟨wi26, hi26, hmc, hgi⟩ := ins_fact (k := 26) MC.out CO.out (by rfl)
  replace BEL := Aside0.mk (BEL.out.grown hgi LM.out)
  replace CZ := Aside0.mk (clo_map CZ.out MC.out hgi)
  replace CO := Aside0.mk (clo_map CO.out MC.out hgi)
  replace C52 := Aside0.mk (clo_map C52.out MC.out hgi)
  replace MC := Aside0.mk hmc
  clear hmc hgi
  obtain ⟨wi27, hi27, hmc, hgi⟩ := ins_fact (k := 27) MC.out CZ.out (by rfl)
  replace BEL := Aside0.mk (BEL.out.grown hgi LM.out)
  replace CZ := Aside0.mk (clo_map CZ.out MC.out hgi)
  replace CO := Aside0.mk (clo_map CO.out MC.out hgi)
  replace C52 := Aside0.mk (clo_map C52.out MC.out hgi)
  replace MC := Aside0.mk hmc
  clear hmc hgi
  obtain ⟨wi28, hi28, hmc, hgi⟩ := ins_fact (k := 28) MC.out CZ.out (by rfl)
  replace BEL := Aside0.mk (BEL.out.grown hgi LM.out)
  replace CZ := Aside0.mk (clo_map CZ.out MC.out hgi)
  replace CO := Aside0.mk (clo_map CO.out MC.out hgi)
  replace C52 := Aside0.mk (clo_map C52.out MC.out hgi)
  replace MC := Aside0.mk hmc
  clear hmc hgi
  go_wp2_with fail
  clear hi24 hi25 hi26 hi27 hi28
  clear C52
  go_at_call 46
  refine (whole_any (0) _ (by decide) (by decide) (tab_below HT.out BEL.out.1)).mono ?_
  rintro en37 w37 ⟨v37, rfl, hr, hb⟩
  have hl := hr.lower (Nat.le_trans (Nat.le_add_right _ _) BEL.out.2)
  replace BEL := Aside0.mk (BEL.out.next hb)
  replace MC := Aside0.mk (MC.out.later hb)
  replace CZ := Aside0.mk (CZ.out.later hb)
  replace CO := Aside0.mk (CO.out.later hb)
  have T1 := Aside0.mk hl
  clear hr hb hl
  go_wp2_with fail
  go_at_call 53
  refine (at_fn (n := 1) _ T1.out (by decide)).mono ?_
  rintro en38 w38 ⟨v38, rfl, hr, hb⟩
  replace BEL := Aside0.mk (BEL.out.next hb)
  replace MC := Aside0.mk (MC.out.later hb)
  replace CZ := Aside0.mk (CZ.out.later hb)
  replace CO := Aside0.mk (CO.out.later hb)
  replace T1 := Aside0.mk (T1.out.below hb)
  obtain ⟨n38, c38, rfl⟩ := hr.shape
  have C58 := Aside0.mk hr
  clear hr hb
  clear T1
  obtain ⟨wi29, hi29, hmc, hgi⟩ := ins_fact (k := 29) MC.out C58.out (by rfl)
  replace BEL := Aside0.mk (BEL.out.grown hgi LM.out)
  replace CZ := Aside0.mk (clo_map CZ.out MC.out hgi)
  replace CO := Aside0.mk (clo_map CO.out MC.out hgi)
  replace C58 := Aside0.mk (clo_map C58.out MC.out hgi)
  replace MC := Aside0.mk hmc
  clear hmc hgi
  obtain ⟨wi30, hi30, hmc, hgi⟩ := ins_fact (k := 30) MC.out CZ.out (by rfl)
  replace BEL := Aside0.mk (BEL.out.grown hgi LM.out)
  replace CZ := Aside0.mk (clo_map CZ.out MC.out hgi)
  replace CO := Aside0.mk (clo_map CO.out MC.out hgi)
  replace C58 := Aside0.mk (clo_map C58.out MC.out hgi)
  replace MC := Aside0.mk hmc
  clear hmc hgi
  go_wp2_with fail
  clear hi29 hi30
  clear C58
  go_ret
  exact ⟨_, rfl, MC.out, BEL.out.1⟩
end Go.Proofs.YtgpjplelgffocaaDoor

namespace Go.Proofs.YtgpjplelgffocaaDoor
open Go.RowKit Go.Proofs.YtgpjplelgffocaaDoorW.PrintWords Limb
set_option linter.unusedVariables false
set_option linter.unusedSimpArgs false

/-- Whether a function has a real value at a number, in units of 2^-1074. -/
def insideF (f : Nat) (z : Int) : Bool :=
  if f = 7 ∨ f = 8 ∨ f = 9 then decide (0 < z)
  else if f = 10 ∨ f = 11 ∨ f = 12 then decide (-1 * 2 ^ 1074 < z)
  else if f = 18 then (!decide (z - nearF z 1072 * 2 ^ 1073 = 0) || (Int.tmod (nearF z 1072 % 4) 2 == 0))
  else if f = 19 ∨ f = 20 ∨ f = 22 ∨ f = 23 then decide ((z.natAbs : Int) ≤ 1 * 2 ^ 1074)
  else if f = 29 then decide (1 * 2 ^ 1074 ≤ z)
  else if f = 30 then decide ((z.natAbs : Int) < 1 * 2 ^ 1074)
  else true
theorem cmpZ_dle (y z : Int) : decide (cmpZ y z ≤ 0) = decide (y ≤ z) := by
  unfold cmpZ
  by_cases h : y ≤ z
  · rw [decide_eq_true h]; repeat' split
    all_goals first | rfl | omega
  · rw [decide_eq_false h]; repeat' split
    all_goals first | rfl | omega
theorem cmpZ_dge (y z : Int) : decide (0 ≤ cmpZ y z) = decide (z ≤ y) := by
  unfold cmpZ
  by_cases h : z ≤ y
  · rw [decide_eq_true h]; repeat' split
    all_goals first | rfl | omega
  · rw [decide_eq_false h]; repeat' split
    all_goals first | rfl | omega

set_option maxRecDepth 100000 in
set_option maxHeartbeats 8000000 in
theorem inside_a {f : Nat} (hf : f = 7 ∨ f = 8 ∨ f = 9) {v : Value} {z : Int} {w : World} (h : CDy w v z (-1074)) (hz : z.natAbs < 2 ^ 2098) (hT : TabAt 0 Lib.deBruijn64tab w) :
    Calls Tryd.prog 52 #[.int .u8 f, v] w fun en w' => en = .returned (.bool (decide (0 < z))) ∧ Below w.heap.size w w' := by
  obtain ⟨b0, A, n0, c, x0, rfl⟩ := h.ex
  have HT := Aside0.mk hT
  have HCD := Aside0.mk h
  have OZ := Aside0.mk (ok_z hz)
  have HS := Aside0.mk (sgn_pos z)
  obtain ⟨q, hq⟩ : ∃ q, decide (0 < z) = q := ⟨_, rfl⟩
  rw [hq] at HS ⊢
  clear h hz hT hq
  rcases hf with rfl | rfl | rfl
  all_goals (
    go_enter Tryd.func52, Tryd.ntmps52
    have BEL : Aside0 (BelN w 1 (w.alloc (.cells #[.bool b0, .slice A n0 c, .int .i64 x0] 27))) := ⟨((BelN.zero w).alloc _).less (by decide)⟩
    have X0 : Aside0 ((w.alloc (.cells #[.bool b0, .slice A n0 c, .int .i64 x0] 27)).heap[w.heap.size]? = some (.cells #[.bool b0, .slice A n0 c, .int .i64 x0] 27 (0, 0))) := ⟨by have h := blk_new w (.cells #[.bool b0, .slice A n0 c, .int .i64 x0] 27); exact h⟩
    obtain ⟨q0, q0'⟩ := box_cell X0.out 0 rfl
    obtain ⟨q1, q1'⟩ := box_cell X0.out 1 rfl
    obtain ⟨q2, q2'⟩ := box_cell X0.out 2 rfl
    go_wp2_with fail
    clear q0 q0' q1 q1' q2 q2'
    go_at_call 45
    refine (sign_ok (HCD.out.below BEL.out.1) OZ.out).mono ?_
    rintro en1 w1 ⟨rfl, hb⟩
    replace BEL := Aside0.mk (BEL.out.next hb)
    replace X0 := Aside0.mk (blk_below X0.out hb)
    clear hb
    have hs := HS.out
    go_wp2_with fail
    go_ret
    exact ⟨rfl, BEL.out.1⟩)

set_option maxRecDepth 100000 in
set_option maxHeartbeats 8000000 in
theorem inside_b {f : Nat} (hf : f = 10 ∨ f = 11 ∨ f = 12) {v : Value} {z : Int} {w : World} (h : CDy w v z (-1074)) (hz : z.natAbs < 2 ^ 2098) (hT : TabAt 0 Lib.deBruijn64tab w) :
    Calls Tryd.prog 52 #[.int .u8 f, v] w fun en w' => en = .returned (.bool (decide (-1 * 2 ^ 1074 < z))) ∧ Below w.heap.size w w' := by
  obtain ⟨b0, A, n0, c, x0, rfl⟩ := h.ex
  have HT := Aside0.mk hT
  have HCD := Aside0.mk h
  have OZ := Aside0.mk (ok_z hz)
  have OM := Aside0.mk (Ok.of (e := -1074) _ (sm_mul (a := -1) (n := 2) (k := 1074) (by decide)) (by decide) (by decide) (by decide))
  obtain ⟨M, hM⟩ : ∃ M : Int, M = -1 * 2 ^ 1074 := ⟨_, rfl⟩
  have HP := Aside0.mk (fun (v : Value) (b : Nat) (W : World) (h : PDy W b v (-1) 0) => (by
    have q := PDy.scale (e := -1074) 1074 h
    rw [← hM] at q; exact q : PDy W b v M (-1074)))
  rw [← hM] at OM ⊢
  obtain ⟨q, hq⟩ : ∃ q, decide (M < z) = q := ⟨_, rfl⟩
  have HC : Aside0 (decide (0 < cmpZ z M) = q) := ⟨by rw [← hq]; exact cmpZ_dgt z M⟩
  rw [hq]
  clear h hz hT hM hq
  rcases hf with rfl | rfl | rfl
  all_goals (
    go_enter Tryd.func52, Tryd.ntmps52
    have BEL : Aside0 (BelN w 1 (w.alloc (.cells #[.bool b0, .slice A n0 c, .int .i64 x0] 27))) := ⟨((BelN.zero w).alloc _).less (by decide)⟩
    have X0 : Aside0 ((w.alloc (.cells #[.bool b0, .slice A n0 c, .int .i64 x0] 27)).heap[w.heap.size]? = some (.cells #[.bool b0, .slice A n0 c, .int .i64 x0] 27 (0, 0))) := ⟨by have h := blk_new w (.cells #[.bool b0, .slice A n0 c, .int .i64 x0] 27); exact h⟩
    go_upto_region 9 with fail
    obtain ⟨GM, hGM⟩ : ∃ G : (Nat → Prop) → (Nat → Value) → World → Prop, G = fun L v W => BelN w 1 W ∧ W.heap[w.heap.size]? = some (.cells #[.bool b0, .slice A n0 c, .int .i64 x0] 27 (0, 0)) ∧ (L 0 → (v 0) = .agg #[.bool b0, .slice A n0 c, .int .i64 x0]) ∧ (L 1 → PDy W w.heap.size (v 1) M (-1074)) ∧ (L 2 → (v 2) = .int .i64 (cmpZ z M)) ∧ (L 3 → (v 3) = .bool q) ∧ (L 4 → (v 4) = .bool q) := ⟨_, rfl⟩
    refine wp_region_slotsV [18, 19, 20, 21, 4] (by kernel_rfl) (by kernel_rfl) (G := GM) ?h0M ?hstepM ?hendM
    case h0M =>
      intro v; rw [hGM]
      exact ⟨BEL.out.next (below_drew (Below.refl _ _)), blk_drew X0.out, fun h => h.elim, fun h => h.elim, fun h => h.elim, fun h => h.elim, fun h => h.elim⟩
    case hstepM =>
      intro k o ho v W L hGv hnk haft hcl K hK
      rw [hGM] at hGv
      obtain ⟨hB, hb0, f0, f1, f2, f3, f4⟩ := hGv
      rcases k with _ | _ | _ | _ | _ | k
      all_goals first
        | (cases ho; done)
        | (obtain rfl := (Option.some.inj ho).symm
           clear ho
           rw [if_pos (by rfl)]
           simp only [setAll, List.setIfInBounds_toArray, List.set_cons_zero, List.set_cons_succ, List.set_nil, List.getElem_toArray, List.getElem_cons_zero, List.getElem_cons_succ, Nat.reduceAdd] at haft hK ⊢)
      case zero =>
        have cc0 := (box_cell (v := .bool b0) hb0 0 rfl).1
        have cc1 := (box_cell (v := .slice A n0 c) hb0 1 rfl).1
        have cc2 := (box_cell (v := .int .i64 x0) hb0 2 rfl).1
        have hb := Below.refl W.heap.size W
        have key := hK.out (.agg #[.bool b0, .slice A n0 c, .int .i64 x0]) W (by rw [hGM]; exact ⟨hB.next hb, blk_below hb0 hb, fun _ => by rw [upd_eq], (kd f1 (by decide) hb), (kv f2 (by decide)), (kv f3 (by decide)), (kv f4 (by decide))⟩)
        clear hb0 f0 f1 f2 f3 f4 hb hK
        go_simp
        simpa [upd] using key
      case succ.zero =>
        have HALL := Aside0.mk (And.intro hK (And.intro hB (And.intro hb0 ( And.intro f0 ( And.intro f1 ( And.intro f2 ( And.intro f3 ( And.intro f4 (True.intro)))))))))
        clear hK hb0 f0 f1 f2 f3 f4
        go_simp
        go_at_call 68
        refine (pint_dy (-1) _ (by decide) (by decide) (tab_below HT.out hB.1)).mono ?_
        rintro en w4 ⟨v1, rfl, hr, hb⟩
        obtain ⟨hK, hB, hb0, f0, f1, f2, f3, f4, _⟩ := HALL.out
        have key := hK.out (v1) w4 (by rw [hGM]; exact ⟨hB.next hb, blk_below hb0 hb, (kv f0 (by decide)), fun _ => by rw [upd_eq]; exact (HP.out _ _ _ hr).lower (Nat.le_trans (Nat.le_add_right _ _) hB.2), (kv f2 (by decide)), (kv f3 (by decide)), (kv f4 (by decide))⟩)
        clear hb0 f0 f1 f2 f3 f4 hK HALL
        simpa [upd] using key
      case succ.succ.zero =>
        have d0 := f0 (haft { on := 0, ground := .data } (by simp) rfl)
        have D0 := d0
        have d1 := f1 (haft { on := 1, ground := .data } (by simp) rfl)
        have D1 := d1
        have HALL := Aside0.mk (And.intro hK (And.intro hB (And.intro hb0 ( And.intro f0 ( And.intro f1 ( And.intro f2 ( And.intro f3 ( And.intro f4 (True.intro)))))))))
        clear hK hb0 f0 f1 f2 f3 f4
        go_simp
        go_at_call 48
        refine (cmp_ok (HCD.out.below hB.1) d1.c OZ.out OM.out (tab_below HT.out hB.1)).mono ?_
        rintro en w4 ⟨rfl, hb⟩
        obtain ⟨hK, hB, hb0, f0, f1, f2, f3, f4, _⟩ := HALL.out
        have key := hK.out (.int .i64 (cmpZ z M)) w4 (by rw [hGM]; exact ⟨hB.next hb, blk_below hb0 hb, (kv f0 (by decide)), (kd f1 (by decide) hb), fun _ => by rw [upd_eq], (kv f3 (by decide)), (kv f4 (by decide))⟩)
        clear hb0 f0 f1 f2 f3 f4 hK HALL
        simpa [upd, D0] using key
      case succ.succ.succ.zero =>
        have d2 := f2 (haft { on := 2, ground := .data } (by simp) rfl)
        have D2 := d2
        have hcq := HC.out
        have hb := Below.refl W.heap.size W
        have key := hK.out (.bool q) W (by rw [hGM]; exact ⟨hB.next hb, blk_below hb0 hb, (kv f0 (by decide)), (kd f1 (by decide) hb), (kv f2 (by decide)), fun _ => by rw [upd_eq], (kv f4 (by decide))⟩)
        clear hb0 f0 f1 f2 f3 f4 hb hK
        go_simp
        simpa [upd, D2] using key
      case succ.succ.succ.succ.zero =>
        have d3 := f3 (haft { on := 3, ground := .data } (by simp) rfl)
        have D3 := d3
        have hb := Below.refl W.heap.size W
        have key := hK.out (.bool q) W (by rw [hGM]; exact ⟨hB.next hb, blk_below hb0 hb, (kv f0 (by decide)), (kd f1 (by decide) hb), (kv f2 (by decide)), (kv f3 (by decide)), fun _ => by rw [upd_eq]⟩)
        clear hb0 f0 f1 f2 f3 f4 hb hK
        go_simp
        simpa [upd, D3] using key
    case hendM =>
      intro v W L0 hall hGv
      rw [hGM] at hGv
      obtain ⟨hB, hb0, f0, f1, f2, f3, f4⟩ := hGv
      have d4 := f4 (hall 4 (by decide))
      replace BEL := Aside0.mk hB
      clear hall hB hb0 f0 f1 f2 f3 f4
      simp only [setAll, List.setIfInBounds_toArray, List.set_cons_zero, List.set_cons_succ, Nat.reduceAdd, d4]
      clear d4
      go_wp2
      go_ret
      exact ⟨rfl, BEL.out.1⟩)

set_option maxRecDepth 100000 in
set_option maxHeartbeats 8000000 in
theorem inside_e {f : Nat} (hf : f = 29) {v : Value} {z : Int} {w : World} (h : CDy w v z (-1074)) (hz : z.natAbs < 2 ^ 2098) (hT : TabAt 0 Lib.deBruijn64tab w) :
    Calls Tryd.prog 52 #[.int .u8 f, v] w fun en w' => en = .returned (.bool (decide (1 * 2 ^ 1074 ≤ z))) ∧ Below w.heap.size w w' := by
  obtain ⟨b0, A, n0, c, x0, rfl⟩ := h.ex
  have HT := Aside0.mk hT
  have HCD := Aside0.mk h
  have OZ := Aside0.mk (ok_z hz)
  have OM := Aside0.mk (Ok.of (e := -1074) _ (sm_mul (a := 1) (n := 2) (k := 1074) (by decide)) (by decide) (by decide) (by decide))
  obtain ⟨M, hM⟩ : ∃ M : Int, M = 1 * 2 ^ 1074 := ⟨_, rfl⟩
  have HP := Aside0.mk (fun (v : Value) (b : Nat) (W : World) (h : PDy W b v (1) 0) => (by
    have q := PDy.scale (e := -1074) 1074 h
    rw [← hM] at q; exact q : PDy W b v M (-1074)))
  rw [← hM] at OM ⊢
  obtain ⟨q, hq⟩ : ∃ q, decide (M ≤ z) = q := ⟨_, rfl⟩
  have HC : Aside0 (decide (0 ≤ cmpZ z M) = q) := ⟨by rw [← hq]; exact cmpZ_dge z M⟩
  rw [hq]
  clear h hz hT hM hq
  rcases hf with rfl
  all_goals (
    go_enter Tryd.func52, Tryd.ntmps52
    have BEL : Aside0 (BelN w 1 (w.alloc (.cells #[.bool b0, .slice A n0 c, .int .i64 x0] 27))) := ⟨((BelN.zero w).alloc _).less (by decide)⟩
    have X0 : Aside0 ((w.alloc (.cells #[.bool b0, .slice A n0 c, .int .i64 x0] 27)).heap[w.heap.size]? = some (.cells #[.bool b0, .slice A n0 c, .int .i64 x0] 27 (0, 0))) := ⟨by have h := blk_new w (.cells #[.bool b0, .slice A n0 c, .int .i64 x0] 27); exact h⟩
    go_upto_region 19 with fail
    obtain ⟨GM, hGM⟩ : ∃ G : (Nat → Prop) → (Nat → Value) → World → Prop, G = fun L v W => BelN w 1 W ∧ W.heap[w.heap.size]? = some (.cells #[.bool b0, .slice A n0 c, .int .i64 x0] 27 (0, 0)) ∧ (L 0 → (v 0) = .agg #[.bool b0, .slice A n0 c, .int .i64 x0]) ∧ (L 1 → PDy W w.heap.size (v 1) M (-1074)) ∧ (L 2 → (v 2) = .int .i64 (cmpZ z M)) ∧ (L 3 → (v 3) = .bool q) ∧ (L 4 → (v 4) = .bool q) := ⟨_, rfl⟩
    refine wp_region_slotsV [48, 49, 50, 51, 4] (by kernel_rfl) (by kernel_rfl) (G := GM) ?h0M ?hstepM ?hendM
    case h0M =>
      intro v; rw [hGM]
      exact ⟨BEL.out.next (below_drew (Below.refl _ _)), blk_drew X0.out, fun h => h.elim, fun h => h.elim, fun h => h.elim, fun h => h.elim, fun h => h.elim⟩
    case hstepM =>
      intro k o ho v W L hGv hnk haft hcl K hK
      rw [hGM] at hGv
      obtain ⟨hB, hb0, f0, f1, f2, f3, f4⟩ := hGv
      rcases k with _ | _ | _ | _ | _ | k
      all_goals first
        | (cases ho; done)
        | (obtain rfl := (Option.some.inj ho).symm
           clear ho
           rw [if_pos (by rfl)]
           simp only [setAll, List.setIfInBounds_toArray, List.set_cons_zero, List.set_cons_succ, List.set_nil, List.getElem_toArray, List.getElem_cons_zero, List.getElem_cons_succ, Nat.reduceAdd] at haft hK ⊢)
      case zero =>
        have cc0 := (box_cell (v := .bool b0) hb0 0 rfl).1
        have cc1 := (box_cell (v := .slice A n0 c) hb0 1 rfl).1
        have cc2 := (box_cell (v := .int .i64 x0) hb0 2 rfl).1
        have hb := Below.refl W.heap.size W
        have key := hK.out (.agg #[.bool b0, .slice A n0 c, .int .i64 x0]) W (by rw [hGM]; exact ⟨hB.next hb, blk_below hb0 hb, fun _ => by rw [upd_eq], (kd f1 (by decide) hb), (kv f2 (by decide)), (kv f3 (by decide)), (kv f4 (by decide))⟩)
        clear hb0 f0 f1 f2 f3 f4 hb hK
        go_simp
        simpa [upd] using key
      case succ.zero =>
        have HALL := Aside0.mk (And.intro hK (And.intro hB (And.intro hb0 ( And.intro f0 ( And.intro f1 ( And.intro f2 ( And.intro f3 ( And.intro f4 (True.intro)))))))))
        clear hK hb0 f0 f1 f2 f3 f4
        go_simp
        go_at_call 68
        refine (pint_dy (1) _ (by decide) (by decide) (tab_below HT.out hB.1)).mono ?_
        rintro en w4 ⟨v1, rfl, hr, hb⟩
        obtain ⟨hK, hB, hb0, f0, f1, f2, f3, f4, _⟩ := HALL.out
        have key := hK.out (v1) w4 (by rw [hGM]; exact ⟨hB.next hb, blk_below hb0 hb, (kv f0 (by decide)), fun _ => by rw [upd_eq]; exact (HP.out _ _ _ hr).lower (Nat.le_trans (Nat.le_add_right _ _) hB.2), (kv f2 (by decide)), (kv f3 (by decide)), (kv f4 (by decide))⟩)
        clear hb0 f0 f1 f2 f3 f4 hK HALL
        simpa [upd] using key
      case succ.succ.zero =>
        have d0 := f0 (haft { on := 0, ground := .data } (by simp) rfl)
        have D0 := d0
        have d1 := f1 (haft { on := 1, ground := .data } (by simp) rfl)
        have D1 := d1
        have HALL := Aside0.mk (And.intro hK (And.intro hB (And.intro hb0 ( And.intro f0 ( And.intro f1 ( And.intro f2 ( And.intro f3 ( And.intro f4 (True.intro)))))))))
        clear hK hb0 f0 f1 f2 f3 f4
        go_simp
        go_at_call 48
        refine (cmp_ok (HCD.out.below hB.1) d1.c OZ.out OM.out (tab_below HT.out hB.1)).mono ?_
        rintro en w4 ⟨rfl, hb⟩
        obtain ⟨hK, hB, hb0, f0, f1, f2, f3, f4, _⟩ := HALL.out
        have key := hK.out (.int .i64 (cmpZ z M)) w4 (by rw [hGM]; exact ⟨hB.next hb, blk_below hb0 hb, (kv f0 (by decide)), (kd f1 (by decide) hb), fun _ => by rw [upd_eq], (kv f3 (by decide)), (kv f4 (by decide))⟩)
        clear hb0 f0 f1 f2 f3 f4 hK HALL
        simpa [upd, D0] using key
      case succ.succ.succ.zero =>
        have d2 := f2 (haft { on := 2, ground := .data } (by simp) rfl)
        have D2 := d2
        have hcq := HC.out
        have hb := Below.refl W.heap.size W
        have key := hK.out (.bool q) W (by rw [hGM]; exact ⟨hB.next hb, blk_below hb0 hb, (kv f0 (by decide)), (kd f1 (by decide) hb), (kv f2 (by decide)), fun _ => by rw [upd_eq], (kv f4 (by decide))⟩)
        clear hb0 f0 f1 f2 f3 f4 hb hK
        go_simp
        simpa [upd, D2] using key
      case succ.succ.succ.succ.zero =>
        have d3 := f3 (haft { on := 3, ground := .data } (by simp) rfl)
        have D3 := d3
        have hb := Below.refl W.heap.size W
        have key := hK.out (.bool q) W (by rw [hGM]; exact ⟨hB.next hb, blk_below hb0 hb, (kv f0 (by decide)), (kd f1 (by decide) hb), (kv f2 (by decide)), (kv f3 (by decide)), fun _ => by rw [upd_eq]⟩)
        clear hb0 f0 f1 f2 f3 f4 hb hK
        go_simp
        simpa [upd, D3] using key
    case hendM =>
      intro v W L0 hall hGv
      rw [hGM] at hGv
      obtain ⟨hB, hb0, f0, f1, f2, f3, f4⟩ := hGv
      have d4 := f4 (hall 4 (by decide))
      replace BEL := Aside0.mk hB
      clear hall hB hb0 f0 f1 f2 f3 f4
      simp only [setAll, List.setIfInBounds_toArray, List.set_cons_zero, List.set_cons_succ, Nat.reduceAdd, d4]
      clear d4
      go_wp2
      go_ret
      exact ⟨rfl, BEL.out.1⟩)

set_option maxRecDepth 100000 in
set_option maxHeartbeats 8000000 in
theorem inside_d {f : Nat} (hf : f = 19 ∨ f = 20 ∨ f = 22 ∨ f = 23) {v : Value} {z : Int} {w : World} (h : CDy w v z (-1074)) (hz : z.natAbs < 2 ^ 2098) (hT : TabAt 0 Lib.deBruijn64tab w) :
    Calls Tryd.prog 52 #[.int .u8 f, v] w fun en w' => en = .returned (.bool (decide ((z.natAbs : Int) ≤ 1 * 2 ^ 1074))) ∧ Below w.heap.size w w' := by
  obtain ⟨b0, A, n0, c, x0, rfl⟩ := h.ex
  have HT := Aside0.mk hT
  have HCD := Aside0.mk h
  have OZ := Aside0.mk (ok_z hz)
  have OM := Aside0.mk (Ok.of (e := -1074) _ (sm_mul (a := 1) (n := 2) (k := 1074) (by decide)) (by decide) (by decide) (by decide))
  obtain ⟨M, hM⟩ : ∃ M : Int, M = 1 * 2 ^ 1074 := ⟨_, rfl⟩
  have HP := Aside0.mk (fun (v : Value) (b : Nat) (W : World) (h : PDy W b v (1) 0) => (by
    have q := PDy.scale (e := -1074) 1074 h
    rw [← hM] at q; exact q : PDy W b v M (-1074)))
  rw [← hM] at OM ⊢
  have OA := Aside0.mk (ok_z (z := (z.natAbs : Int)) (by rw [Int.natAbs_natCast]; exact hz))
  obtain ⟨q, hq⟩ : ∃ q, decide ((z.natAbs : Int) ≤ M) = q := ⟨_, rfl⟩
  have HC : Aside0 (decide (cmpZ (z.natAbs : Int) M ≤ 0) = q) := ⟨by rw [← hq]; exact cmpZ_dle (z.natAbs : Int) M⟩
  rw [hq]
  clear h hz hT hM hq
  rcases hf with rfl | rfl | rfl | rfl
  all_goals (
    go_enter Tryd.func52, Tryd.ntmps52
    have BEL : Aside0 (BelN w 1 (w.alloc (.cells #[.bool b0, .slice A n0 c, .int .i64 x0] 27))) := ⟨((BelN.zero w).alloc _).less (by decide)⟩
    have X0 : Aside0 ((w.alloc (.cells #[.bool b0, .slice A n0 c, .int .i64 x0] 27)).heap[w.heap.size]? = some (.cells #[.bool b0, .slice A n0 c, .int .i64 x0] 27 (0, 0))) := ⟨by have h := blk_new w (.cells #[.bool b0, .slice A n0 c, .int .i64 x0] 27); exact h⟩
    obtain ⟨q0, q0'⟩ := box_cell X0.out 0 rfl
    obtain ⟨q1, q1'⟩ := box_cell X0.out 1 rfl
    obtain ⟨q2, q2'⟩ := box_cell X0.out 2 rfl
    go_wp2_with fail
    clear q0 q0' q1 q1' q2 q2'
    go_at_call 49
    refine (abs_ok (HCD.out.below BEL.out.1) OZ.out (tab_below HT.out BEL.out.1)).mono ?_
    rintro en1 w1 ⟨v1, rfl, hr, hb⟩
    replace BEL := Aside0.mk (BEL.out.next hb)
    replace X0 := Aside0.mk (blk_below X0.out hb)
    have P1 := Aside0.mk hr
    obtain ⟨b1, A1, n1, c1, x1, rfl⟩ := hr.ex
    clear hr hb
    go_wp2_with fail
    go_at_call 68
    refine (pint_dy 1 _ (by decide) (by decide) (tab_below HT.out BEL.out.1)).mono ?_
    rintro en2 w2 ⟨v2, rfl, hr, hb⟩
    replace BEL := Aside0.mk (BEL.out.next hb)
    replace X0 := Aside0.mk (blk_below X0.out hb)
    replace P1 := Aside0.mk (P1.out.below hb)
    have P2 := Aside0.mk hr
    obtain ⟨b2, A2, n2, c2, x2, rfl⟩ := hr.ex
    clear hr hb
    go_wp2_with fail
    go_at_call 48
    refine (cmp_ok P1.out.c (HP.out _ _ _ P2.out).c OA.out OM.out (tab_below HT.out BEL.out.1)).mono ?_
    rintro en3 w3 ⟨rfl, hb⟩
    replace BEL := Aside0.mk (BEL.out.next hb)
    replace X0 := Aside0.mk (blk_below X0.out hb)
    replace P1 := Aside0.mk (P1.out.below hb)
    replace P2 := Aside0.mk (P2.out.below hb)
    clear hb
    have hcq := HC.out
    go_wp2_with fail
    go_ret
    exact ⟨rfl, BEL.out.1⟩)

set_option maxRecDepth 100000 in
set_option maxHeartbeats 8000000 in
theorem inside_f {f : Nat} (hf : f = 30) {v : Value} {z : Int} {w : World} (h : CDy w v z (-1074)) (hz : z.natAbs < 2 ^ 2098) (hT : TabAt 0 Lib.deBruijn64tab w) :
    Calls Tryd.prog 52 #[.int .u8 f, v] w fun en w' => en = .returned (.bool (decide ((z.natAbs : Int) < 1 * 2 ^ 1074))) ∧ Below w.heap.size w w' := by
  obtain ⟨b0, A, n0, c, x0, rfl⟩ := h.ex
  have HT := Aside0.mk hT
  have HCD := Aside0.mk h
  have OZ := Aside0.mk (ok_z hz)
  have OM := Aside0.mk (Ok.of (e := -1074) _ (sm_mul (a := 1) (n := 2) (k := 1074) (by decide)) (by decide) (by decide) (by decide))
  obtain ⟨M, hM⟩ : ∃ M : Int, M = 1 * 2 ^ 1074 := ⟨_, rfl⟩
  have HP := Aside0.mk (fun (v : Value) (b : Nat) (W : World) (h : PDy W b v (1) 0) => (by
    have q := PDy.scale (e := -1074) 1074 h
    rw [← hM] at q; exact q : PDy W b v M (-1074)))
  rw [← hM] at OM ⊢
  have OA := Aside0.mk (ok_z (z := (z.natAbs : Int)) (by rw [Int.natAbs_natCast]; exact hz))
  obtain ⟨q, hq⟩ : ∃ q, decide ((z.natAbs : Int) < M) = q := ⟨_, rfl⟩
  have HC : Aside0 (decide (cmpZ (z.natAbs : Int) M < 0) = q) := ⟨by rw [← hq]; exact cmpZ_dlt (z.natAbs : Int) M⟩
  rw [hq]
  clear h hz hT hM hq
  rcases hf with rfl
  all_goals (
    go_enter Tryd.func52, Tryd.ntmps52
    have BEL : Aside0 (BelN w 1 (w.alloc (.cells #[.bool b0, .slice A n0 c, .int .i64 x0] 27))) := ⟨((BelN.zero w).alloc _).less (by decide)⟩
    have X0 : Aside0 ((w.alloc (.cells #[.bool b0, .slice A n0 c, .int .i64 x0] 27)).heap[w.heap.size]? = some (.cells #[.bool b0, .slice A n0 c, .int .i64 x0] 27 (0, 0))) := ⟨by have h := blk_new w (.cells #[.bool b0, .slice A n0 c, .int .i64 x0] 27); exact h⟩
    obtain ⟨q0, q0'⟩ := box_cell X0.out 0 rfl
    obtain ⟨q1, q1'⟩ := box_cell X0.out 1 rfl
    obtain ⟨q2, q2'⟩ := box_cell X0.out 2 rfl
    go_wp2_with fail
    clear q0 q0' q1 q1' q2 q2'
    go_at_call 49
    refine (abs_ok (HCD.out.below BEL.out.1) OZ.out (tab_below HT.out BEL.out.1)).mono ?_
    rintro en1 w1 ⟨v1, rfl, hr, hb⟩
    replace BEL := Aside0.mk (BEL.out.next hb)
    replace X0 := Aside0.mk (blk_below X0.out hb)
    have P1 := Aside0.mk hr
    obtain ⟨b1, A1, n1, c1, x1, rfl⟩ := hr.ex
    clear hr hb
    go_wp2_with fail
    go_at_call 68
    refine (pint_dy 1 _ (by decide) (by decide) (tab_below HT.out BEL.out.1)).mono ?_
    rintro en2 w2 ⟨v2, rfl, hr, hb⟩
    replace BEL := Aside0.mk (BEL.out.next hb)
    replace X0 := Aside0.mk (blk_below X0.out hb)
    replace P1 := Aside0.mk (P1.out.below hb)
    have P2 := Aside0.mk hr
    obtain ⟨b2, A2, n2, c2, x2, rfl⟩ := hr.ex
    clear hr hb
    go_wp2_with fail
    go_at_call 48
    refine (cmp_ok P1.out.c (HP.out _ _ _ P2.out).c OA.out OM.out (tab_below HT.out BEL.out.1)).mono ?_
    rintro en3 w3 ⟨rfl, hb⟩
    replace BEL := Aside0.mk (BEL.out.next hb)
    replace X0 := Aside0.mk (blk_below X0.out hb)
    replace P1 := Aside0.mk (P1.out.below hb)
    replace P2 := Aside0.mk (P2.out.below hb)
    clear hb
    have hcq := HC.out
    go_wp2_with fail
    go_ret
    exact ⟨rfl, BEL.out.1⟩)

set_option maxRecDepth 100000 in
set_option maxHeartbeats 8000000 in
theorem inside_c {f : Nat} (hf : f = 18) {v : Value} {z : Int} {w : World} (h : CDy w v z (-1074)) (hz : z.natAbs < 2 ^ 2098) (hT : TabAt 0 Lib.deBruijn64tab w) :
    Calls Tryd.prog 52 #[.int .u8 f, v] w fun en w' => en = .returned (.bool (!decide (z - nearF z 1072 * 2 ^ 1073 = 0) || (Int.tmod (nearF z 1072 % 4) 2 == 0))) ∧ Below w.heap.size w w' := by
  obtain ⟨b0, A, n0, c, x0, rfl⟩ := h.ex
  have HT := Aside0.mk hT
  have HCD := Aside0.mk h
  have OZ := Aside0.mk (ok_z hz)
  have QO := Aside0.mk (fun (W : World) (hb : Below w.heap.size w W) => spotOf_any (h.below hb) hz (tab_below hT hb))
  have OR := Aside0.mk (ok_r (left_small hz))
  have hk := mod4 (nearF z 1072)
  subst hf
  clear h hz hT
  generalize nearF z 1072 % 4 = k at *
  generalize z - nearF z 1072 * 2 ^ 1073 = r at *
  have hkw : wrap64 (k.tmod 2) = k.tmod 2 := by unfold wrap64; rcases hk with rfl | rfl | rfl | rfl <;> decide
  have HKW := Aside0.mk hkw
  obtain ⟨kev, hkev⟩ : ∃ q, (k.tmod 2 == 0) = q := ⟨_, rfl⟩
  have HKE := Aside0.mk hkev
  rw [hkev]
  clear hk hkw hkev
  go_enter Tryd.func52, Tryd.ntmps52
  have BEL : Aside0 (BelN w 1 (w.alloc (.cells #[.bool b0, .slice A n0 c, .int .i64 x0] 27))) := ⟨((BelN.zero w).alloc _).less (by decide)⟩
  have X0 : Aside0 ((w.alloc (.cells #[.bool b0, .slice A n0 c, .int .i64 x0] 27)).heap[w.heap.size]? = some (.cells #[.bool b0, .slice A n0 c, .int .i64 x0] 27 (0, 0))) := ⟨by have h := blk_new w (.cells #[.bool b0, .slice A n0 c, .int .i64 x0] 27); exact h⟩
  obtain ⟨q0, q0'⟩ := box_cell X0.out 0 rfl
  obtain ⟨q1, q1'⟩ := box_cell X0.out 1 rfl
  obtain ⟨q2, q2'⟩ := box_cell X0.out 2 rfl
  go_wp2_with fail
  clear q0 q0' q1 q1' q2 q2'
  go_at_call 74
  refine (QO.out _ BEL.out.1).mono ?_
  rintro en1 w1 ⟨v1, rfl, hr, hb⟩
  replace BEL := Aside0.mk (BEL.out.next hb)
  replace X0 := Aside0.mk (blk_below X0.out hb)
  have P1 := Aside0.mk hr
  obtain ⟨b1, A1, n1, c1, x1, rfl⟩ := hr.ex5
  clear hr hb
  have BELo := BEL
  go_wp2_with (replace BEL := Aside0.mk ((BEL.out.alloc (.cells #[.int .i64 0, .bool false, .slice none 0 0, .int .i64 0] 82)).less (j := 1) (by omega)); have HN := Aside0.mk (blk_new w1 (.cells #[.int .i64 0, .bool false, .slice none 0 0, .int .i64 0] 82)); have L_X0 := lt_blk X0.out; replace X0 := Aside0.mk (blk_alloc X0.out (.cells #[.int .i64 0, .bool false, .slice none 0 0, .int .i64 0] 82)); replace P1 := Aside0.mk (P1.out.below (below_alloc (Below.refl _ _) (.cells #[.int .i64 0, .bool false, .slice none 0 0, .int .i64 0] 82))); ((with_reducible refine gate_store (p := 5) rfl ?_); go_must (refine store_box 82 5 (.tmp 25) rfl rfl rfl (g := w1.heap.size) (e := 82) (.agg #[.int .i64 k, .bool b1, .slice A1 n1 c1, .int .i64 x1]) ([.int .i64 k, .bool b1, .slice A1 n1 c1, .int .i64 x1]) rfl rfl rfl info_spot ?b1 HN.out rfl ?_; (case b1 => intro q hq; simp at hq; rcases hq with rfl | rfl | rfl | rfl <;> rfl); intro wb hbx hgx; have HX := Aside0.mk hbx; have HG := Aside0.mk hgx; clear hbx hgx)); replace P1 := Aside0.mk (P1.out.grown_box HN.out (by decide) HG.out); have LB_XS := BELo.out.2; replace BEL := Aside0.mk (BEL.out.grown HG.out (Nat.le_trans (Nat.le_add_right _ _) LB_XS)); replace X0 := Aside0.mk (blk_grown X0.out HG.out (Nat.ne_of_lt L_X0)); have NE_X0_XS := Aside0.mk (Nat.ne_of_lt L_X0); clear L_X0; have LL_XS := Aside0.mk LB_XS; clear LB_XS; have XS := HX; clear HG HN HX; obtain ⟨q3, q3'⟩ := box_cell XS.out 0 rfl; obtain ⟨q4, q4'⟩ := box_cell XS.out 1 rfl; obtain ⟨q5, q5'⟩ := box_cell XS.out 2 rfl; obtain ⟨q6, q6'⟩ := box_cell XS.out 3 rfl)
  clear q3 q3' q4 q4' q5 q5' q6 q6'
  go_at_call 22
  refine (zero_ok P1.out.d.1.c OR.out).mono ?_
  rintro en2 w2 ⟨rfl, hb⟩
  replace BEL := Aside0.mk (BEL.out.next hb)
  replace X0 := Aside0.mk (blk_below X0.out hb)
  replace XS := Aside0.mk (blk_below XS.out hb)
  replace P1 := Aside0.mk (P1.out.below hb)
  clear hb
  by_cases hr : r = 0
  case neg =>
    have hd : decide (r = 0) = false := decide_eq_false hr
    clear hr
    obtain ⟨q7, q7'⟩ := box_cell XS.out 0 rfl
    obtain ⟨q8, q8'⟩ := box_cell XS.out 1 rfl
    obtain ⟨q9, q9'⟩ := box_cell XS.out 2 rfl
    obtain ⟨q10, q10'⟩ := box_cell XS.out 3 rfl
    go_wp2_with fail
    go_ret
    exact ⟨ret_bool (by rw [hd]; rfl), BEL.out.1⟩
  case pos =>
    have hd : decide (r = 0) = true := decide_eq_true hr
    have HR := Aside0.mk hr
    have hkw := HKW.out
    have hkev := HKE.out
    clear hr
    cases kev
    case true =>
      obtain ⟨q7, q7'⟩ := box_cell XS.out 0 rfl
      obtain ⟨q8, q8'⟩ := box_cell XS.out 1 rfl
      obtain ⟨q9, q9'⟩ := box_cell XS.out 2 rfl
      obtain ⟨q10, q10'⟩ := box_cell XS.out 3 rfl
      go_wp2_with fail
      go_ret
      exact ⟨ret_bool (by rw [hd]; rfl), BEL.out.1⟩
    case false =>
      obtain ⟨q7, q7'⟩ := box_cell XS.out 0 rfl
      obtain ⟨q8, q8'⟩ := box_cell XS.out 1 rfl
      obtain ⟨q9, q9'⟩ := box_cell XS.out 2 rfl
      obtain ⟨q10, q10'⟩ := box_cell XS.out 3 rfl
      go_wp2_with fail
      go_ret
      exact ⟨ret_bool (by rw [hd]; rfl), BEL.out.1⟩

set_option maxRecDepth 100000 in
set_option maxHeartbeats 8000000 in
theorem inside_g {f : Nat} (hf : ¬ f = 7 ∧ ¬ f = 8 ∧ ¬ f = 9 ∧ ¬ f = 10 ∧ ¬ f = 11 ∧ ¬ f = 12 ∧ ¬ f = 18 ∧ ¬ f = 19 ∧ ¬ f = 20 ∧ ¬ f = 22 ∧ ¬ f = 23 ∧ ¬ f = 29 ∧ ¬ f = 30) {v : Value} {z : Int} {w : World} (h : CDy w v z (-1074)) (hz : z.natAbs < 2 ^ 2098) (hT : TabAt 0 Lib.deBruijn64tab w) :
    Calls Tryd.prog 52 #[.int .u8 f, v] w fun en w' => en = .returned (.bool (true)) ∧ Below w.heap.size w w' := by
  obtain ⟨b0, A, n0, c, x0, rfl⟩ := h.ex
  have HT := Aside0.mk hT
  have HCD := Aside0.mk h
  have OZ := Aside0.mk (ok_z hz)
  have e7 : ((f : Int) == 7) = false := by simp; omega
  have e8 : ((f : Int) == 8) = false := by simp; omega
  have e9 : ((f : Int) == 9) = false := by simp; omega
  have e10 : ((f : Int) == 10) = false := by simp; omega
  have e11 : ((f : Int) == 11) = false := by simp; omega
  have e12 : ((f : Int) == 12) = false := by simp; omega
  have e18 : ((f : Int) == 18) = false := by simp; omega
  have e19 : ((f : Int) == 19) = false := by simp; omega
  have e20 : ((f : Int) == 20) = false := by simp; omega
  have e22 : ((f : Int) == 22) = false := by simp; omega
  have e23 : ((f : Int) == 23) = false := by simp; omega
  have e29 : ((f : Int) == 29) = false := by simp; omega
  have e30 : ((f : Int) == 30) = false := by simp; omega
  clear h hz hT hf
  go_enter Tryd.func52, Tryd.ntmps52
  have BEL : Aside0 (BelN w 1 (w.alloc (.cells #[.bool b0, .slice A n0 c, .int .i64 x0] 27))) := ⟨((BelN.zero w).alloc _).less (by decide)⟩
  have X0 : Aside0 ((w.alloc (.cells #[.bool b0, .slice A n0 c, .int .i64 x0] 27)).heap[w.heap.size]? = some (.cells #[.bool b0, .slice A n0 c, .int .i64 x0] 27 (0, 0))) := ⟨by have h := blk_new w (.cells #[.bool b0, .slice A n0 c, .int .i64 x0] 27); exact h⟩
  obtain ⟨q0, q0'⟩ := box_cell X0.out 0 rfl
  obtain ⟨q1, q1'⟩ := box_cell X0.out 1 rfl
  obtain ⟨q2, q2'⟩ := box_cell X0.out 2 rfl
  go_wp2_with fail
  go_ret
  exact ⟨rfl, BEL.out.1⟩

theorem inside_any {f : Nat} {v : Value} {z : Int} {w : World} (h : CDy w v z (-1074)) (hz : z.natAbs < 2 ^ 2098) (hT : TabAt 0 Lib.deBruijn64tab w) :
    Calls Tryd.prog 52 #[.int .u8 f, v] w fun en w' => en = .returned (.bool (insideF f z)) ∧ Below w.heap.size w w' := by
  unfold insideF
  by_cases h1 : f = 7 ∨ f = 8 ∨ f = 9
  · rw [if_pos h1]; exact inside_a h1 h hz hT
  rw [if_neg h1]
  by_cases h2 : f = 10 ∨ f = 11 ∨ f = 12
  · rw [if_pos h2]; exact inside_b h2 h hz hT
  rw [if_neg h2]
  by_cases h3 : f = 18
  · rw [if_pos h3]; exact inside_c h3 h hz hT
  rw [if_neg h3]
  by_cases h4 : f = 19 ∨ f = 20 ∨ f = 22 ∨ f = 23
  · rw [if_pos h4]; exact inside_d h4 h hz hT
  rw [if_neg h4]
  by_cases h5 : f = 29
  · rw [if_pos h5]; exact inside_e h5 h hz hT
  rw [if_neg h5]
  by_cases h6 : f = 30
  · rw [if_pos h6]; exact inside_f h6 h hz hT
  rw [if_neg h6]
  exact inside_g (by omega) h hz hT
end Go.Proofs.YtgpjplelgffocaaDoor

namespace Go.Proofs.YtgpjplelgffocaaDoor
open Go.RowKit Go.Proofs.YtgpjplelgffocaaDoorW.PrintWords Limb
set_option linter.unusedVariables false
set_option linter.unusedSimpArgs false

def finB (x : Nat) : Bool := decide (x % 9223372036854775808 < 9218868437227405312)
def errB (b : Bool) : Int := if b = true then 0 else 5
def fromV (x : Nat) : Int := if finB x = true then valI x else 0
theorem valI_small {x : Nat} (hf : x % 9223372036854775808 < 9218868437227405312) : (valI x).natAbs < 2 ^ 2098 := by
  unfold valI
  rw [sgn_abs]
  have h1 : (if x / 4503599627370496 % 2048 = 0 then x % 4503599627370496 else 4503599627370496 + x % 4503599627370496) < 2 ^ 53 := by split <;> omega
  have h2 : x / 4503599627370496 % 2048 - 1 ≤ 2045 := by omega
  generalize (if x / 4503599627370496 % 2048 = 0 then x % 4503599627370496 else 4503599627370496 + x % 4503599627370496) = a at h1
  generalize x / 4503599627370496 % 2048 - 1 = k at h2
  refine Nat.lt_of_lt_of_le (Nat.mul_lt_mul_of_pos_right h1 (Nat.two_pow_pos k)) ?_
  rw [← Nat.pow_add]
  exact pow_le2 (53 + k) 2098 (by omega)
theorem fromV_small (x : Nat) : (fromV x).natAbs < 2 ^ 2098 := by
  unfold fromV
  split
  · rename_i h; exact valI_small (of_decide_eq_true h)
  · show 0 < 2 ^ 2098
    exact Nat.two_pow_pos 2098
theorem from_one (x : Nat) (hx : x < 18446744073709551616) (w : World) (hT : TabAt 0 Lib.deBruijn64tab w) :
    Calls Tryd.prog 20 #[.int .u64 (x : Int)] w fun e w' => ∃ v, e = .returned (.tuple #[v, .int .i64 (errB (finB x))]) ∧ PDy w' w.heap.size v (fromV x) (-1074) ∧ Below w.heap.size w w' := by
  by_cases h : x % 9223372036854775808 < 9218868437227405312
  · have hb : finB x = true := decide_eq_true h
    unfold fromV errB
    rw [if_pos hb, if_pos hb]
    exact pfrom_any x hx h w hT
  · have hb : ¬ finB x = true := by unfold finB; rw [decide_eq_false h]; decide
    unfold fromV errB
    rw [if_neg hb, if_neg hb]
    exact (pfrom_none x hx h w).mono fun en w' q => ⟨_, q.1, PDy.zero _ _ _, q.2⟩
def isF (f : Nat) : Bool := decide (1 ≤ f ∧ f ≤ 30)
def domF (f x : Nat) : Bool := isF f && finB x && insideF f (fromV x)
theorem is_one (f : Nat) (hf : f < 256) (w : World) : Calls Tryd.prog 30 #[.int .u8 f] w fun en w' => en = .returned (.bool (isF f)) ∧ Below w.heap.size w w' := is_fn f hf w

set_option maxRecDepth 100000 in
set_option maxHeartbeats 8000000 in
theorem domain_any (f x : Nat) (hf : f < 256) (hx : x < 18446744073709551616) (w : World) (hT : TabAt 0 Lib.deBruijn64tab w) :
    Calls Tryd.prog 28 #[.int .u8 f, .int .u64 (x : Int)] w fun en w' => en = .returned (.bool (domF f x)) ∧ Below w.heap.size w w' := by
  have HT := Aside0.mk hT
  have HF := Aside0.mk hf
  have QFr := Aside0.mk (fun (W : World) (ht : TabAt 0 Lib.deBruijn64tab W) => from_one x hx W ht)
  have QIn := Aside0.mk (fun (v : Value) (W : World) (h : CDy W v (fromV x) (-1074)) (ht : TabAt 0 Lib.deBruijn64tab W) => inside_any (f := f) h (fromV_small x) ht)
  have HD := Aside0.mk (show domF f x = (isF f && finB x && insideF f (fromV x)) from rfl)
  obtain ⟨D, hD⟩ : ∃ D, D = domF f x := ⟨_, rfl⟩
  rw [← hD] at HD ⊢
  generalize fromV x = z at *
  generalize insideF f z = ins at *
  have QIs := Aside0.mk (fun (W : World) => is_one f hf W)
  clear hT hf hx hD
  generalize isF f = isf at *
  generalize finB x = fin at *
  go_enter Tryd.func28, Tryd.ntmps28
  have BEL := Aside0.mk (BelN.zero w)
  go_wp2_with fail
  go_at_call 20
  refine (QFr.out _ HT.out).mono ?_
  rintro en1 w1 ⟨v1, rfl, hr, hb⟩
  replace BEL := Aside0.mk (BEL.out.next hb)
  have P1 := Aside0.mk hr
  obtain ⟨b1, A1, n1, c1, x1, rfl⟩ := hr.ex
  clear hr hb
  have BELo := BEL
  go_wp2_with (replace BEL := Aside0.mk ((BEL.out.alloc (.cells #[.bool false, .slice none 0 0, .int .i64 0] 27)).less (j := 0) (by omega)); have HN := Aside0.mk (blk_new w1 (.cells #[.bool false, .slice none 0 0, .int .i64 0] 27)); replace P1 := Aside0.mk (P1.out.below (below_alloc (Below.refl _ _) (.cells #[.bool false, .slice none 0 0, .int .i64 0] 27))); ((with_reducible refine gate_store (p := 5) rfl ?_); go_must (refine store_box 27 5 (.tmp 10) rfl rfl rfl (g := w1.heap.size) (e := 27) (.agg #[.bool b1, .slice A1 n1 c1, .int .i64 x1]) ([.bool b1, .slice A1 n1 c1, .int .i64 x1]) rfl rfl rfl info_dyad ?b1 HN.out rfl ?_; (case b1 => intro q hq; simp at hq; rcases hq with rfl | rfl | rfl <;> rfl); intro wb hbx hgx; have HX := Aside0.mk hbx; have HG := Aside0.mk hgx; clear hbx hgx)); replace P1 := Aside0.mk (P1.out.grown_box HN.out (by decide) HG.out); have LB_XD := BELo.out.2; replace BEL := Aside0.mk (BEL.out.grown HG.out (Nat.le_trans (Nat.le_add_right _ _) LB_XD)); have LL_XD := Aside0.mk LB_XD; clear LB_XD; have XD := HX; clear HG HN HX)
  go_at_call 30
  refine (QIs.out _).mono ?_
  rintro en2 w2 ⟨rfl, hb⟩
  replace BEL := Aside0.mk (BEL.out.next hb)
  replace XD := Aside0.mk (blk_below XD.out hb)
  replace P1 := Aside0.mk (P1.out.below hb)
  clear hb
  cases isf
  case false =>
    go_wp2_with fail
    go_ret
    exact ⟨ret_bool (by rw [HD.out]; rfl), BEL.out.1⟩
  case true =>
    cases fin
    case false =>
      have he : errB false = 5 := rfl
      go_wp2_with fail
      go_ret
      exact ⟨ret_bool (by rw [HD.out]; rfl), BEL.out.1⟩
    case true =>
      have he : errB true = 0 := rfl
      obtain ⟨q0, q0'⟩ := box_cell XD.out 0 rfl
      obtain ⟨q1, q1'⟩ := box_cell XD.out 1 rfl
      obtain ⟨q2, q2'⟩ := box_cell XD.out 2 rfl
      go_wp2_with fail
      clear q0 q0' q1 q1' q2 q2'
      go_at_call 52
      refine (QIn.out _ _ P1.out.c (tab_below HT.out BEL.out.1)).mono ?_
      rintro en3 w3 ⟨rfl, hb⟩
      replace BEL := Aside0.mk (BEL.out.next hb)
      replace XD := Aside0.mk (blk_below XD.out hb)
      replace P1 := Aside0.mk (P1.out.below hb)
      clear hb
      go_wp2_with fail
      go_ret
      exact ⟨ret_bool (by rw [HD.out]; rfl), BEL.out.1⟩

def caseG (f : Nat) (z : Int) : Option (Int × Int) := ((caseL[f - 1]?).getD (fun _ => none)) z
def exE (f x : Nat) : Int := if isF f = true then (if domF f x = true then 0 else 5) else 2
def exO (f x : Nat) : Option (Int × Int) := if isF f = true ∧ domF f x = true then caseG f (fromV x) else none
theorem IsClo.lower {w : World} {b b' : Nat} {v : Value} {G : Int → Option (Int × Int)} (h : IsClo w b v G) (hb : b' ≤ b) : IsClo w b' v G := by
  induction h with
  | atc h1 h2 hP hn => exact .atc h1 h2 (hP.lower hb) hn
  | pow2 h1 h2 h3 h4 a b c d e => exact .pow2 h1 h2 h3 h4 a b c d e
  | pow10 h1 h2 h3 h4 a b c d e f g => exact .pow10 h1 h2 h3 h4 a b c d e f g
  | log2 h1 h2 h3 a b => exact .log2 h1 h2 h3 a b
  | log10 h1 h2 h3 a b => exact .log10 h1 h2 h3 a b
  | turned h1 a => exact .turned h1 a
  | first h1 h2 _ _ _ i0 i1 i2 => exact .first h1 h2 i0 i1 i2
def HasMap (w : World) (b : Nat) (v : Value) : Prop := ∃ m, v = .map (some m) ∧ MapC w b m caseL
theorem HasMap.later {w w1 : World} {b : Nat} {v : Value} (h : HasMap w b v) (hb : Below w.heap.size w w1) : HasMap w1 b v := by
  obtain ⟨m, h1, h2⟩ := h; exact ⟨m, h1, h2.later hb⟩
def HasClo (w : World) (b : Nat) (v : Value) (G : Int → Option (Int × Int)) : Prop := ∃ n cap, v = .func (.func n) #[] cap ∧ Clo w b n cap G
theorem HasClo.later {w w1 : World} {b : Nat} {v : Value} {G : Int → Option (Int × Int)} (h : HasClo w b v G) (hb : Below w.heap.size w w1) : HasClo w1 b v G := by
  obtain ⟨n, c, h1, h2⟩ := h; exact ⟨n, c, h1, h2.below hb⟩
theorem HasMap.get {w : World} {b f : Nat} {v : Value} (h : HasMap w b v) (hb : b ≤ w.heap.size) (h1 : 1 ≤ f) (h2 : f ≤ 30) :
    ∃ m n cap, v = .map (some m) ∧ (Instr.lookup 56 (.map (some m)) (.int .u8 (f : Int)) false).run Tryd.prog w = .ok (.func (.func n) #[] cap) w ∧ Clo w b n cap (caseG f) := by
  obtain ⟨m, rfl, L, h3, h4, h5⟩ := h
  have h30 : caseL.length = 30 := rfl
  obtain ⟨v, hv⟩ : ∃ v, L[f - 1]? = some v := ⟨_, List.getElem?_eq_getElem (by omega)⟩
  obtain ⟨G, hG⟩ : ∃ G, caseL[f - 1]? = some G := ⟨_, List.getElem?_eq_getElem (by omega)⟩
  obtain ⟨n, cap, rfl, hc⟩ := (h5 _ _ _ hv hG).call hb
  have h6 := map_lookup h3 hv
  rw [show ((f - 1 : Nat) : Int) + 1 = (f : Int) by omega] at h6
  have h7 : caseG f = G := by
    funext z; unfold caseG; rw [hG]; rfl
  exact ⟨m, n, cap, rfl, h6, by rw [h7]; exact hc⟩
theorem isF_range {f : Nat} (h : isF f = true) : 1 ≤ f ∧ f ≤ 30 := of_decide_eq_true h

set_option maxRecDepth 100000 in
set_option maxHeartbeats 8000000 in
theorem exact_any (f x : Nat) (hf : f < 256) (hx : x < 18446744073709551616) (w : World) (hT : TabAt 0 Lib.deBruijn64tab w) :
    Calls Tryd.prog 11 #[.int .u8 f, .int .u64 (x : Int)] w fun en w' => ∃ v', en = .returned (.tuple #[v', .bool (exO f x).isSome, .int .i64 (exE f x)]) ∧ PDy w' w.heap.size v' ((exO f x).getD (0, 0)).1 ((exO f x).getD (0, 0)).2 ∧ Below w.heap.size w w' := by
  have HT := Aside0.mk hT
  have HF := Aside0.mk hf
  have QFr := Aside0.mk (fun (W : World) (ht : TabAt 0 Lib.deBruijn64tab W) => from_one x hx W ht)
  have QD := Aside0.mk (fun (W : World) (ht : TabAt 0 Lib.deBruijn64tab W) => domain_any f x hf hx W ht)
  have QIs := Aside0.mk (fun (W : World) => is_one f hf W)
  have HE := Aside0.mk (show exE f x = if isF f = true then (if domF f x = true then 0 else 5) else 2 from rfl)
  have HO := Aside0.mk (show exO f x = if isF f = true ∧ domF f x = true then caseG f (fromV x) else none from rfl)
  have HZ := Aside0.mk (fromV_small x)
  have HFin := Aside0.mk (show domF f x = true → finB x = true from fun h => by
    unfold domF at h
    simp only [Bool.and_eq_true] at h
    exact h.1.2)
  have HIR := Aside0.mk (isF_range (f := f))
  obtain ⟨eo, heo⟩ : ∃ o, o = exO f x := ⟨_, rfl⟩
  obtain ⟨ee, hee⟩ : ∃ o, o = exE f x := ⟨_, rfl⟩
  rw [← heo] at HO ⊢
  rw [← hee] at HE ⊢
  clear hT hf hx heo hee
  generalize fromV x = z at *
  generalize isF f = isf at *
  generalize domF f x = dom at *
  generalize finB x = fin at *
  go_enter Tryd.func11, Tryd.ntmps11
  have BEL : Aside0 (BelN w 1 (w.alloc (.cells #[.bool false, .slice none 0 0, .int .i64 0] 27))) := ⟨((BelN.zero w).alloc _).less (by decide)⟩
  have XR : Aside0 ((w.alloc (.cells #[.bool false, .slice none 0 0, .int .i64 0] 27)).heap[w.heap.size]? = some (.cells #[.bool false, .slice none 0 0, .int .i64 0] 27 (0, 0))) := ⟨by have h := blk_new w (.cells #[.bool false, .slice none 0 0, .int .i64 0] 27); exact h⟩
  go_wp2_with fail
  go_at_call 30
  refine (QIs.out _).mono ?_
  rintro en1 w1 ⟨rfl, hb⟩
  replace BEL := Aside0.mk (BEL.out.next hb)
  replace XR := Aside0.mk (blk_below XR.out hb)
  clear hb
  cases isf
  case false =>
    have HEE : Aside0 (ee = 2) := ⟨by rw [HE.out]; rfl⟩
    have HOO : Aside0 (eo = none) := ⟨by rw [HO.out, if_neg (fun h => by cases h.1)]⟩
    go_wp2_with (((with_reducible refine gate_store (p := 4) rfl ?_); go_must (refine store_box 27 4 (.tmp 14) rfl rfl rfl (g := w.heap.size) (e := 27) (.agg #[.bool false, .slice none 0 0, .int .i64 0]) ([.bool false, .slice none 0 0, .int .i64 0]) rfl rfl rfl info_dyad ?b1 XR.out rfl ?_; (case b1 => intro q hq; simp at hq; rcases hq with rfl | rfl | rfl <;> rfl); intro wb hbx hgx; have HX := Aside0.mk hbx; have HG := Aside0.mk hgx; clear hbx hgx)); replace BEL := Aside0.mk (BEL.out.grown HG.out (by omega)); replace XR := HX; clear HG)
    refine bodyPost_ret (results_list (rs := [.cell 4 27, .tmp 5, .tmp 6]) rfl (by simp) (Vals.box any_dyad info_dyad (g := w.heap.size) rfl XR.out rfl (.tmp (.tmp .nil)))) rfl ?_
    rw [HEE.out, HOO.out]
    exact ⟨_, rfl, PDy.zero _ _ _, BEL.out.1⟩
  case true =>
    go_wp2_with fail
    go_at_call 28
    refine (QD.out _ (tab_below HT.out BEL.out.1)).mono ?_
    rintro en2 w2 ⟨rfl, hb⟩
    replace BEL := Aside0.mk (BEL.out.next hb)
    replace XR := Aside0.mk (blk_below XR.out hb)
    clear hb
    cases dom
    case false =>
      have HEE : Aside0 (ee = 5) := ⟨by rw [HE.out]; rfl⟩
      have HOO : Aside0 (eo = none) := ⟨by rw [HO.out, if_neg (fun h => by cases h.2)]⟩
      go_wp2_with (((with_reducible refine gate_store (p := 4) rfl ?_); go_must (refine store_box 27 4 (.tmp 20) rfl rfl rfl (g := w.heap.size) (e := 27) (.agg #[.bool false, .slice none 0 0, .int .i64 0]) ([.bool false, .slice none 0 0, .int .i64 0]) rfl rfl rfl info_dyad ?b1 XR.out rfl ?_; (case b1 => intro q hq; simp at hq; rcases hq with rfl | rfl | rfl <;> rfl); intro wb hbx hgx; have HX := Aside0.mk hbx; have HG := Aside0.mk hgx; clear hbx hgx)); replace BEL := Aside0.mk (BEL.out.grown HG.out (by omega)); replace XR := HX; clear HG)
      refine bodyPost_ret (results_list (rs := [.cell 4 27, .tmp 5, .tmp 6]) rfl (by simp) (Vals.box any_dyad info_dyad (g := w.heap.size) rfl XR.out rfl (.tmp (.tmp .nil)))) rfl ?_
      rw [HEE.out, HOO.out]
      exact ⟨_, rfl, PDy.zero _ _ _, BEL.out.1⟩
    case true =>
      have hfin := HFin.out (by simp)
      subst hfin
      have HEE : Aside0 (ee = 0) := ⟨by rw [HE.out]; rfl⟩
      have HOO : Aside0 (eo = caseG f z) := ⟨by rw [HO.out, if_pos (by simp)]⟩
      have HR := Aside0.mk (HIR.out (by simp))
      clear HIR
      go_wp2_with fail
      go_at_call 20
      refine (QFr.out _ (tab_below HT.out BEL.out.1)).mono ?_
      have BL0 := BEL
      rintro en3 w3 ⟨v3, rfl, hr, hb⟩
      replace BEL := Aside0.mk (BEL.out.next hb)
      replace XR := Aside0.mk (blk_below XR.out hb)
      have P1 := Aside0.mk hr
      obtain ⟨b3, A3, n3, c3, x3, rfl⟩ := hr.ex
      clear hr hb
      have BL := BEL
      have BELo := BEL
      go_wp2_with (replace BEL := Aside0.mk ((BEL.out.alloc (.cells #[.bool false, .slice none 0 0, .int .i64 0] 27)).less (j := 1) (by omega)); have HN := Aside0.mk (blk_new w3 (.cells #[.bool false, .slice none 0 0, .int .i64 0] 27)); have L_XR := lt_blk XR.out; replace XR := Aside0.mk (blk_alloc XR.out (.cells #[.bool false, .slice none 0 0, .int .i64 0] 27)); replace P1 := Aside0.mk (P1.out.below (below_alloc (Below.refl _ _) (.cells #[.bool false, .slice none 0 0, .int .i64 0] 27))); ((with_reducible refine gate_store (p := 7) rfl ?_); go_must (refine store_box 27 7 (.tmp 24) rfl rfl rfl (g := w3.heap.size) (e := 27) (.agg #[.bool b3, .slice A3 n3 c3, .int .i64 x3]) ([.bool b3, .slice A3 n3 c3, .int .i64 x3]) rfl rfl rfl info_dyad ?b1 HN.out rfl ?_; (case b1 => intro q hq; simp at hq; rcases hq with rfl | rfl | rfl <;> rfl); intro wb hbx hgx; have HX := Aside0.mk hbx; have HG := Aside0.mk hgx; clear hbx hgx)); replace P1 := Aside0.mk (P1.out.grown_box HN.out (by decide) HG.out); have LB_XD := BELo.out.2; replace BEL := Aside0.mk (BEL.out.grown HG.out (Nat.le_trans (Nat.le_add_right _ _) LB_XD)); replace XR := Aside0.mk (blk_grown XR.out HG.out (Nat.ne_of_lt L_XR)); have NE_XR_XD := Aside0.mk (Nat.ne_of_lt L_XR); clear L_XR; have LL_XD := Aside0.mk LB_XD; clear LB_XD; have XD := HX; clear HG HN HX)
      obtain ⟨GM, hGM⟩ : ∃ G : (Nat → Prop) → (Nat → Value) → World → Prop, G = fun L v W => BelN wb 0 W ∧ W.heap[w.heap.size]? = some (.cells #[.bool false, .slice none 0 0, .int .i64 0] 27 (0, 0)) ∧ W.heap[w3.heap.size]? = some (.cells #[.bool b3, .slice A3 n3 c3, .int .i64 x3] 27 (0, 0)) ∧ PDy W w.heap.size (.agg #[.bool b3, .slice A3 n3 c3, .int .i64 x3]) z (-1074) ∧ (L 0 → (¬ L 6 → HasMap W w.heap.size (v 0))) ∧ (L 1 → (v 1) = .int .u8 (f : Int)) ∧ (L 2 → (¬ L 6 → HasClo W w.heap.size (v 2) (caseG f))) ∧ (L 3 → (v 3) = .agg #[.bool b3, .slice A3 n3 c3, .int .i64 x3]) ∧ (L 4 → PO W w.heap.size (v 4) (caseG f z)) ∧ (L 5 → ∃ g : Nat, (v 5) = .pointer (some ⟨g, 0, none⟩) ∧ wb.heap.size + 0 ≤ g ∧ (¬ L 6 → W.heap[g]? = some (.cells #[.bool false, .slice none 0 0, .int .i64 0, .bool false] 51 (0, 0))) ∧ (L 6 → ∃ (bb : Bool) (A : Option Addr) (n c : Nat) (x : Int) (b2 : Bool), (v 4) = .agg #[.bool bb, .slice A n c, .int .i64 x, .bool b2] ∧ W.heap[g]? = some (.cells #[.bool bb, .slice A n c, .int .i64 x, .bool b2] 51 (0, 0)))) ∧ True := ⟨_, rfl⟩
      refine wp_region_slotsV [26, 27, 28, 29, 30, 9] (by kernel_rfl) (by kernel_rfl) (G := GM) ?h0M ?hstepM ?hendM
      case h0M =>
        intro v; rw [hGM]
        exact ⟨(BelN.zero wb).next (below_drew (Below.refl _ _)), blk_drew XR.out, blk_drew XD.out, (P1.out.below (below_drew (Below.refl _ _))).lower BL0.out.1.size, fun h => h.elim, fun h => h.elim, fun h => h.elim, fun h => h.elim, fun h => h.elim, fun h => h.elim, trivial⟩
      case hstepM =>
        intro k o ho v W L hGv hnk haft hcl K hK
        rw [hGM] at hGv
        obtain ⟨hB, hb0, hb1, hk0, f0, f1, f2, f3, f4, f5, f6⟩ := hGv
        rcases k with _ | _ | _ | _ | _ | _ | _ | k
        all_goals first
          | (cases ho; done)
          | (obtain rfl := (Option.some.inj ho).symm
             clear ho
             rw [if_pos (by rfl)]
             simp only [setAll, List.setIfInBounds_toArray, List.set_cons_zero, List.set_cons_succ, List.set_nil, List.getElem_toArray, List.getElem_cons_zero, List.getElem_cons_succ, Nat.reduceAdd] at haft hK ⊢)
        case zero =>
          have HALL := Aside0.mk (And.intro hK (And.intro hB (And.intro hb0 ( And.intro hb1 ( And.intro hk0 ( And.intro f0 ( And.intro f1 ( And.intro f2 ( And.intro f3 ( And.intro f4 ( And.intro f5 ( And.intro f6 (True.intro)))))))))))))
          clear hK hb0 hb1 hk0 f0 f1 f2 f3 f4 f5 f6
          go_simp
          go_at_call 31
          refine (cases_any W (tab_below HT.out (BEL.out.next hB.1).1)).mono ?_
          rintro en w4 ⟨m1, rfl, hr, hb⟩
          obtain ⟨hK, hB, hb0, hb1, hk0, f0, f1, f2, f3, f4, f5, f6, _⟩ := HALL.out
          have key := hK.out (.map (some m1)) w4 (by rw [hGM]; exact ⟨hB.next hb, blk_below hb0 hb, blk_below hb1 hb, hk0.below hb, fun _ => by rw [upd_eq]; exact (fun _ => ⟨m1, rfl, (by obtain ⟨L1, q1, q2, q3⟩ := hr; exact ⟨L1, q1, q2, fun i v G hv hG => (q3 i v G hv hG).lower (BEL.out.next hB.1).1.size⟩)⟩), (kv f1 (by decide)), (fun h => by rw [upd_ne v _ (by decide)]; exact (fun h6 => (f2 (h.resolve_right (by decide)) (fun h => h6 (.inl h))).later hb)), (kv f3 (by decide)), (fun h => by rw [upd_ne v _ (by decide)]; exact (f4 (h.resolve_right (by decide))).below hb), (fun h => by obtain ⟨g, e1, e2, e3, e4⟩ := f5 (h.resolve_right (by decide)); rw [upd_ne v _ (by decide), upd_ne v _ (by decide)]; exact ⟨g, e1, e2, fun h2 => blk_below (e3 (fun h3 => h2 (.inl h3))) hb, fun h2 => by obtain ⟨bb, A, n, c, x, b2, y1, y2⟩ := e4 (h2.resolve_right (by decide)); exact ⟨bb, A, n, c, x, b2, y1, blk_below y2 hb⟩⟩), trivial⟩)
          clear hb0 hb1 hk0 f0 f1 f2 f3 f4 f5 f6 hK HALL
          simpa [upd] using key
        case succ.zero =>
          have hb := Below.refl W.heap.size W
          have key := hK.out (.int .u8 (f : Int)) W (by rw [hGM]; exact ⟨hB.next hb, blk_below hb0 hb, blk_below hb1 hb, hk0.below hb, (fun h => by rw [upd_ne v _ (by decide)]; exact (fun h6 => (f0 (h.resolve_right (by decide)) (fun h => h6 (.inl h))).later hb)), fun _ => by rw [upd_eq], (fun h => by rw [upd_ne v _ (by decide)]; exact (fun h6 => (f2 (h.resolve_right (by decide)) (fun h => h6 (.inl h))).later hb)), (kv f3 (by decide)), (fun h => by rw [upd_ne v _ (by decide)]; exact (f4 (h.resolve_right (by decide))).below hb), (fun h => by obtain ⟨g, e1, e2, e3, e4⟩ := f5 (h.resolve_right (by decide)); rw [upd_ne v _ (by decide), upd_ne v _ (by decide)]; exact ⟨g, e1, e2, fun h2 => blk_below (e3 (fun h3 => h2 (.inl h3))) hb, fun h2 => by obtain ⟨bb, A, n, c, x, b2, y1, y2⟩ := e4 (h2.resolve_right (by decide)); exact ⟨bb, A, n, c, x, b2, y1, blk_below y2 hb⟩⟩), trivial⟩)
          clear hb0 hb1 hk0 f0 f1 f2 f3 f4 f5 f6 hb hK
          go_simp
          simpa [upd] using key
        case succ.succ.zero =>
          have d0 := f0 (haft { on := 0, ground := .data } (by simp) rfl)
          have D0 := d0
          have d1 := f1 (haft { on := 1, ground := .data } (by simp) rfl)
          have D1 := d1
          have hns6 : ¬ L 6 := fun hs => hnk (hcl 6 _ rfl hs { on := 2, ground := .phase } (by simp) rfl)
          have HALL := Aside0.mk (And.intro hK (And.intro hB (And.intro hb0 ( And.intro hb1 ( And.intro hk0 ( And.intro f0 ( And.intro f1 ( And.intro f2 ( And.intro f3 ( And.intro f4 ( And.intro f5 ( And.intro f6 (True.intro)))))))))))))
          clear hK hb0 hb1 hk0 f0 f1 f2 f3 f4 f5 f6
          have hb := Below.refl W.heap.size W
          obtain ⟨m0, n0, cap0, e0, hlk, hcl0⟩ := (d0 hns6).get (BEL.out.next hB.1).1.size HR.out.1 HR.out.2
          go_simp
          obtain ⟨hK, hB, hb0, hb1, hk0, f0, f1, f2, f3, f4, f5, f6, _⟩ := HALL.out
          have key := hK.out (.func (.func n0) #[] cap0) W (by rw [hGM]; exact ⟨hB.next hb, blk_below hb0 hb, blk_below hb1 hb, hk0.below hb, (fun h => by rw [upd_ne v _ (by decide)]; exact (fun h6 => (f0 (h.resolve_right (by decide)) (fun h => h6 (.inl h))).later hb)), (kv f1 (by decide)), fun _ => by rw [upd_eq]; exact (fun _ => ⟨n0, cap0, rfl, hcl0⟩), (kv f3 (by decide)), (fun h => by rw [upd_ne v _ (by decide)]; exact (f4 (h.resolve_right (by decide))).below hb), (fun h => by obtain ⟨g, e1, e2, e3, e4⟩ := f5 (h.resolve_right (by decide)); rw [upd_ne v _ (by decide), upd_ne v _ (by decide)]; exact ⟨g, e1, e2, fun h2 => blk_below (e3 (fun h3 => h2 (.inl h3))) hb, fun h2 => by obtain ⟨bb, A, n, c, x, b2, y1, y2⟩ := e4 (h2.resolve_right (by decide)); exact ⟨bb, A, n, c, x, b2, y1, blk_below y2 hb⟩⟩), trivial⟩)
          clear hb0 hb1 hk0 f0 f1 f2 f3 f4 f5 f6 hK HALL
          simpa [upd, D1, e0, D1] using key
        case succ.succ.succ.zero =>
          have cc0 := (box_cell (v := .bool b3) hb1 0 rfl).1
          have cc1 := (box_cell (v := .slice A3 n3 c3) hb1 1 rfl).1
          have cc2 := (box_cell (v := .int .i64 x3) hb1 2 rfl).1
          have hb := Below.refl W.heap.size W
          have key := hK.out (.agg #[.bool b3, .slice A3 n3 c3, .int .i64 x3]) W (by rw [hGM]; exact ⟨hB.next hb, blk_below hb0 hb, blk_below hb1 hb, hk0.below hb, (fun h => by rw [upd_ne v _ (by decide)]; exact (fun h6 => (f0 (h.resolve_right (by decide)) (fun h => h6 (.inl h))).later hb)), (kv f1 (by decide)), (fun h => by rw [upd_ne v _ (by decide)]; exact (fun h6 => (f2 (h.resolve_right (by decide)) (fun h => h6 (.inl h))).later hb)), fun _ => by rw [upd_eq], (fun h => by rw [upd_ne v _ (by decide)]; exact (f4 (h.resolve_right (by decide))).below hb), (fun h => by obtain ⟨g, e1, e2, e3, e4⟩ := f5 (h.resolve_right (by decide)); rw [upd_ne v _ (by decide), upd_ne v _ (by decide)]; exact ⟨g, e1, e2, fun h2 => blk_below (e3 (fun h3 => h2 (.inl h3))) hb, fun h2 => by obtain ⟨bb, A, n, c, x, b2, y1, y2⟩ := e4 (h2.resolve_right (by decide)); exact ⟨bb, A, n, c, x, b2, y1, blk_below y2 hb⟩⟩), trivial⟩)
          clear hb0 hb1 hk0 f0 f1 f2 f3 f4 f5 f6 hb hK
          go_simp
          simpa [upd] using key
        case succ.succ.succ.succ.zero =>
          have hns6 : ¬ L 6 := fun hs => hnk (hcl 6 _ rfl hs { on := 4, ground := .data } (by simp) rfl)
          have d2 := f2 (haft { on := 2, ground := .data } (by simp) rfl)
          have D2 := d2
          have d3 := f3 (haft { on := 3, ground := .data } (by simp) rfl)
          have D3 := d3
          have K1 := hk0
          have HALL := Aside0.mk (And.intro hK (And.intro hB (And.intro hb0 ( And.intro hb1 ( And.intro hk0 ( And.intro f0 ( And.intro f1 ( And.intro f2 ( And.intro f3 ( And.intro f4 ( And.intro f5 ( And.intro f6 (True.intro)))))))))))))
          clear hK hb0 hb1 hk0 f0 f1 f2 f3 f4 f5 f6
          obtain ⟨n2, cap2, e2, hcl2⟩ := d2 hns6
          have hcf := hcl2.1
          unfold Enters at hcf
          go_simp
          refine (hcl2.2 W _ z (Below.refl _ _) K1.c HZ.out (tab_below HT.out (BEL.out.next hB.1).1)).mono ?_
          rintro en w4 ⟨v1, rfl, hr, hb⟩
          obtain ⟨hK, hB, hb0, hb1, hk0, f0, f1, f2, f3, f4, f5, f6, _⟩ := HALL.out
          have key := hK.out (v1) w4 (by rw [hGM]; exact ⟨hB.next hb, blk_below hb0 hb, blk_below hb1 hb, hk0.below hb, (fun h => by rw [upd_ne v _ (by decide)]; exact (fun h6 => (f0 (h.resolve_right (by decide)) (fun h => h6 (.inl h))).later hb)), (kv f1 (by decide)), (fun h => by rw [upd_ne v _ (by decide)]; exact (fun h6 => (f2 (h.resolve_right (by decide)) (fun h => h6 (.inl h))).later hb)), (kv f3 (by decide)), fun _ => by rw [upd_eq]; exact hr, (fun h => by obtain ⟨g, e1, e2, e3, e4⟩ := f5 (h.resolve_right (by decide)); rw [upd_ne v _ (by decide)]; exact ⟨g, e1, e2, fun h2 => blk_below (e3 (fun h3 => h2 (.inl h3))) hb, fun h2 => (hns6 (h2.resolve_right (by decide))).elim⟩), trivial⟩)
          clear hb0 hb1 hk0 f0 f1 f2 f3 f4 f5 f6 hK HALL
          simpa [upd, D3, e2] using key
        case succ.succ.succ.succ.succ.zero =>
          have hns6 : ¬ L 6 := fun hs => hnk (hcl 6 _ rfl hs { on := 5, ground := .data } (by simp) rfl)
          have hb := below_alloc (Below.refl W.heap.size W) (.cells #[.bool false, .slice none 0 0, .int .i64 0, .bool false] 51)
          have key := hK.out (.pointer (some ⟨W.heap.size, 0, none⟩)) (W.alloc (.cells #[.bool false, .slice none 0 0, .int .i64 0, .bool false] 51)) (by rw [hGM]; exact ⟨hB.next hb, blk_below hb0 hb, blk_below hb1 hb, hk0.below hb, (fun h => by rw [upd_ne v _ (by decide)]; exact (fun h6 => (f0 (h.resolve_right (by decide)) (fun h => h6 (.inl h))).later hb)), (kv f1 (by decide)), (fun h => by rw [upd_ne v _ (by decide)]; exact (fun h6 => (f2 (h.resolve_right (by decide)) (fun h => h6 (.inl h))).later hb)), (kv f3 (by decide)), (fun h => by rw [upd_ne v _ (by decide)]; exact (f4 (h.resolve_right (by decide))).below hb), fun _ => by rw [upd_eq]; exact ⟨W.heap.size, rfl, hB.2, fun _ => blk_new W _, fun h2 => (hns6 (h2.resolve_right (by decide))).elim⟩, trivial⟩)
          clear hb0 hb1 hk0 f0 f1 f2 f3 f4 f5 f6 hK hb hns6
          go_simp
          simpa [upd] using key
        case succ.succ.succ.succ.succ.succ.zero =>
          have l0 := lt_blk XR.out
          have l1 := lt_blk XD.out
          obtain ⟨g, e1, e2, e3, -⟩ := f5 (haft { on := 5, ground := .data } (by simp) rfl)
          have hgb := e3 hnk
          have ds := f4 (haft { on := 4, ground := .data } (by simp) rfl)
          obtain ⟨bb, A, n, c, x, b2, es⟩ := ds.ex
          refine wp_store_box 51 9 (.tmp 30) rfl rfl (g := g) (e := 51) (v 4) [.bool bb, .slice A n c, .int .i64 x, .bool b2] (by first | rfl | exact e1) rfl (by rw [es]; rfl) info_told ?_ hgb rfl ?_
          · intro q hq; simp at hq; rcases hq with rfl | rfl | rfl | rfl <;> rfl
          · intro w1 hw1 hg
            have key := hK.out undef w1 (by rw [hGM]; exact ⟨hB.grown hg (by omega), blk_grown hb0 hg (by omega), blk_grown hb1 hg (by omega), hk0.grown_box hgb (by decide) hg, (fun h => by rw [upd_ne v _ (by decide)]; exact (fun h6 => (h6 (.inr rfl)).elim)), (kv f1 (by decide)), (fun h => by rw [upd_ne v _ (by decide)]; exact (fun h6 => (h6 (.inr rfl)).elim)), (kv f3 (by decide)), (fun h => by rw [upd_ne v _ (by decide)]; exact (f4 (h.resolve_right (by decide))).grown_box hgb (by decide) hg), (fun h => by rw [upd_ne v _ (by decide), upd_ne v _ (by decide)]; exact ⟨g, e1, e2, fun h2 => (h2 (.inr rfl)).elim, fun _ => ⟨bb, A, n, c, x, b2, es, hw1⟩⟩), trivial⟩)
            clear hb0 hb1 hk0 f0 f1 f2 f3 f4 f5 f6 hK
            simpa [upd] using key
      case hendM =>
        intro v W L0 hall hGv
        rw [hGM] at hGv
        obtain ⟨hB, hb0, hb1, hk0, f0, f1, f2, f3, f4, f5, _⟩ := hGv
        have d4 := f4 (hall 4 (by decide))
        obtain ⟨g, p5, hgs, _, hg5⟩ := f5 (hall 5 (by decide))
        obtain ⟨b9, A9, n9, c9, x9, s9, p9, hx9⟩ := hg5 (hall 6 (by decide))
        rw [p9] at d4
        have l0 := lt_blk XR.out
        have HGN := Aside0.mk (show w.heap.size ≠ g by omega)
        clear l0
        replace BEL := Aside0.mk (BEL.out.next hB.1)
        replace XR := Aside0.mk hb0
        have XT := Aside0.mk hx9
        have P9 := Aside0.mk d4
        clear hall f0 f1 f2 f3 f4 f5 hB hb0 hb1 d4 hx9 hg5 hgs hk0 XD P1
        simp only [setAll, List.setIfInBounds_toArray, List.set_cons_zero, List.set_cons_succ, List.set_nil, Nat.reduceAdd, p5, p9]
        go_upto_region 7 with fail
        obtain ⟨GN, hGN⟩ : ∃ G : (Nat → Prop) → (Nat → Value) → World → Prop, G = fun L v W => BelN w 1 W ∧ W.heap[g]? = some (.cells #[.bool b9, .slice A9 n9 c9, .int .i64 x9, .bool s9] 51 (0, 0)) ∧ PO W w.heap.size (.agg #[.bool b9, .slice A9 n9 c9, .int .i64 x9, .bool s9]) (caseG f z) ∧ (L 0 → (v 0) = .pointer (some ⟨g, 0, none⟩)) ∧ (L 1 → (v 1) = .agg #[.bool b9, .slice A9 n9 c9, .int .i64 x9]) ∧ (L 2 → (v 2) = .pointer (some ⟨g, 3, none⟩)) ∧ (L 3 → (v 3) = .bool s9) ∧ ((¬ L 4 → W.heap[w.heap.size]? = some (.cells #[.bool false, .slice none 0 0, .int .i64 0] 27 (0, 0))) ∧ (L 4 → W.heap[w.heap.size]? = some (.cells #[.bool b9, .slice A9 n9 c9, .int .i64 x9] 27 (0, 0)))) ∧ (L 5 → (v 5) = .bool s9) ∧ (L 6 → (v 6) = .int .i64 0) := ⟨_, rfl⟩
        refine wp_region_slotsV [31, 32, 33, 34, 99, 5, 6] (by kernel_rfl) (by kernel_rfl) (G := GN) ?h0N ?hstepN ?hendN
        case h0N =>
          intro v; rw [hGN]
          exact ⟨BEL.out.next (below_drew (Below.refl _ _)), blk_drew XT.out, P9.out.below (below_drew (Below.refl _ _)), fun h => h.elim, fun h => h.elim, fun h => h.elim, fun h => h.elim, ⟨fun _ => blk_drew XR.out, fun h => h.elim⟩, fun h => h.elim, fun h => h.elim⟩
        case hstepN =>
          intro k o ho v W L hGv hnk haft hcl K hK
          rw [hGN] at hGv
          obtain ⟨hB, hb0, hk0, f0, f1, f2, f3, f4, f5, f6⟩ := hGv
          rcases k with _ | _ | _ | _ | _ | _ | _ | k
          all_goals first
            | (cases ho; done)
            | (obtain rfl := (Option.some.inj ho).symm
               clear ho
               rw [if_pos (by rfl)]
               simp only [setAll, List.setIfInBounds_toArray, List.set_cons_zero, List.set_cons_succ, List.set_nil, List.getElem_toArray, List.getElem_cons_zero, List.getElem_cons_succ, Nat.reduceAdd] at haft hK ⊢)
          case zero =>
            have hb := Below.refl W.heap.size W
            have key := hK.out (.pointer (some ⟨g, 0, none⟩)) W (by rw [hGN]; exact ⟨hB.next hb, blk_below hb0 hb, hk0.below hb, fun _ => by rw [upd_eq], (kv f1 (by decide)), (kv f2 (by decide)), (kv f3 (by decide)), (⟨fun h2 => blk_below (f4.1 (fun h3 => h2 (.inl h3))) hb, fun h2 => blk_below (f4.2 (h2.resolve_right (by decide))) hb⟩), (kv f5 (by decide)), (kv f6 (by decide))⟩)
            clear hb0 hk0 f0 f1 f2 f3 f4 f5 f6 hb hK
            go_simp
            simpa [upd] using key
          case succ.zero =>
            have hns4 : ¬ L 4 := fun hs => hnk (hcl 4 _ rfl hs { on := 1, ground := .data } (by simp) rfl)
            have d0 := f0 (haft { on := 0, ground := .data } (by simp) rfl)
            have D0 := d0
            have cc0 := (box_cell (v := .bool b9) hb0 0 rfl).1
            have cc1 := (box_cell (v := .slice A9 n9 c9) hb0 1 rfl).1
            have cc2 := (box_cell (v := .int .i64 x9) hb0 2 rfl).1
            have hb := Below.refl W.heap.size W
            have key := hK.out (.agg #[.bool b9, .slice A9 n9 c9, .int .i64 x9]) W (by rw [hGN]; exact ⟨hB.next hb, blk_below hb0 hb, hk0.below hb, (kv f0 (by decide)), fun _ => by rw [upd_eq], (kv f2 (by decide)), (kv f3 (by decide)), (⟨fun h2 => blk_below (f4.1 (fun h3 => h2 (.inl h3))) hb, fun h2 => (hns4 (h2.resolve_right (by decide))).elim⟩), (kv f5 (by decide)), (kv f6 (by decide))⟩)
            clear hb0 hk0 f0 f1 f2 f3 f4 f5 f6 hb hK
            go_simp
            simpa [upd, D0] using key
          case succ.succ.zero =>
            have hb := Below.refl W.heap.size W
            have key := hK.out (.pointer (some ⟨g, 3, none⟩)) W (by rw [hGN]; exact ⟨hB.next hb, blk_below hb0 hb, hk0.below hb, (kv f0 (by decide)), (kv f1 (by decide)), fun _ => by rw [upd_eq], (kv f3 (by decide)), (⟨fun h2 => blk_below (f4.1 (fun h3 => h2 (.inl h3))) hb, fun h2 => blk_below (f4.2 (h2.resolve_right (by decide))) hb⟩), (kv f5 (by decide)), (kv f6 (by decide))⟩)
            clear hb0 hk0 f0 f1 f2 f3 f4 f5 f6 hb hK
            go_simp
            simpa [upd] using key
          case succ.succ.succ.zero =>
            have d2 := f2 (haft { on := 2, ground := .data } (by simp) rfl)
            have D2 := d2
            have cc3 := (box_cell (v := .bool s9) hb0 3 rfl).1
            have hb := Below.refl W.heap.size W
            have key := hK.out (.bool s9) W (by rw [hGN]; exact ⟨hB.next hb, blk_below hb0 hb, hk0.below hb, (kv f0 (by decide)), (kv f1 (by decide)), (kv f2 (by decide)), fun _ => by rw [upd_eq], (⟨fun h2 => blk_below (f4.1 (fun h3 => h2 (.inl h3))) hb, fun h2 => blk_below (f4.2 (h2.resolve_right (by decide))) hb⟩), (kv f5 (by decide)), (kv f6 (by decide))⟩)
            clear hb0 hk0 f0 f1 f2 f3 f4 f5 f6 hb hK
            go_simp
            simpa [upd, D2] using key
          case succ.succ.succ.succ.zero =>
            have h_g := HGN.out
            have hgb := f4.1 hnk
            have ds := f1 (haft { on := 1, ground := .data } (by simp) rfl)
            have es := ds
            refine wp_store_box 27 4 (.tmp 32) rfl rfl (g := w.heap.size) (e := 27) (v 1) [.bool b9, .slice A9 n9 c9, .int .i64 x9] (by first | rfl | exact rfl) rfl (by rw [es]; rfl) info_dyad ?_ hgb rfl ?_
            · intro q hq; simp at hq; rcases hq with rfl | rfl | rfl <;> rfl
            · intro w1 hw1 hg
              have key := hK.out undef w1 (by rw [hGN]; exact ⟨hB.grown hg (by omega), blk_grown hb0 hg (by omega), hk0.grown_box hgb (by decide) hg, (kv f0 (by decide)), (kv f1 (by decide)), (kv f2 (by decide)), (kv f3 (by decide)), ⟨fun h => (h (.inr rfl)).elim, fun _ => hw1⟩, (kv f5 (by decide)), (kv f6 (by decide))⟩)
              clear hb0 hk0 f0 f1 f2 f3 f4 f5 f6 hK
              simpa [upd] using key
          case succ.succ.succ.succ.succ.zero =>
            have d3 := f3 (haft { on := 3, ground := .data } (by simp) rfl)
            have D3 := d3
            have hb := Below.refl W.heap.size W
            have key := hK.out (.bool s9) W (by rw [hGN]; exact ⟨hB.next hb, blk_below hb0 hb, hk0.below hb, (kv f0 (by decide)), (kv f1 (by decide)), (kv f2 (by decide)), (kv f3 (by decide)), (⟨fun h2 => blk_below (f4.1 (fun h3 => h2 (.inl h3))) hb, fun h2 => blk_below (f4.2 (h2.resolve_right (by decide))) hb⟩), fun _ => by rw [upd_eq], (kv f6 (by decide))⟩)
            clear hb0 hk0 f0 f1 f2 f3 f4 f5 f6 hb hK
            go_simp
            simpa [upd, D3] using key
          case succ.succ.succ.succ.succ.succ.zero =>
            have hb := Below.refl W.heap.size W
            have key := hK.out (.int .i64 0) W (by rw [hGN]; exact ⟨hB.next hb, blk_below hb0 hb, hk0.below hb, (kv f0 (by decide)), (kv f1 (by decide)), (kv f2 (by decide)), (kv f3 (by decide)), (⟨fun h2 => blk_below (f4.1 (fun h3 => h2 (.inl h3))) hb, fun h2 => blk_below (f4.2 (h2.resolve_right (by decide))) hb⟩), (kv f5 (by decide)), fun _ => by rw [upd_eq]⟩)
            clear hb0 hk0 f0 f1 f2 f3 f4 f5 f6 hb hK
            go_simp
            simpa [upd] using key
        case hendN =>
          intro v W L0 hall hGv
          rw [hGN] at hGv
          obtain ⟨hB, hb0, hk0, f0, f1, f2, f3, f4, f5, f6⟩ := hGv
          have d5 := f5 (hall 5 (by decide))
          have d6 := f6 (hall 6 (by decide))
          have d4 := f4.2 (hall 4 (by decide))
          replace BEL := Aside0.mk hB
          replace XR := Aside0.mk d4
          replace P9 := Aside0.mk hk0
          clear hall f0 f1 f2 f3 f4 f5 f6 hB hb0 hk0 d4
          simp only [setAll, List.setIfInBounds_toArray, List.set_cons_zero, List.set_cons_succ, List.set_nil, Nat.reduceAdd, d5, d6]
          go_wp2
          refine bodyPost_ret (results_list (rs := [.cell 4 27, .tmp 5, .tmp 6]) rfl (by simp) (Vals.box any_dyad info_dyad (g := w.heap.size) rfl XR.out rfl (.tmp (.tmp .nil)))) rfl ?_
          rw [HEE.out, HOO.out]
          obtain ⟨q1, q2⟩ := PT.d P9.out
          exact ⟨_, by rw [q2]; rfl, q1, BEL.out.1⟩
end Go.Proofs.YtgpjplelgffocaaDoor

namespace Go.Proofs.YtgpjplelgffocaaDoor
open Go.RowKit Go.Proofs.YtgpjplelgffocaaDoorW.PrintWords Limb
set_option linter.unusedVariables false
set_option linter.unusedSimpArgs false

/-- The case of a point's angle. -/
def angF (f : Nat) (y x : Int) : Option (Int × Int) :=
  if y = 0 ∧ 0 < x then some (0, 0) else if f = 33 then none else if y = 0 then some (1, 0) else if x = 0 then some (sgnI y, 0 + -1)
  else if ¬ (y.natAbs : Int) = x.natAbs then none else if 0 < x then some (sgnI y, 0 + -2) else some (3 * sgnI y, 0 + -2)
theorem sgnI_cases (y : Int) : sgnI y = 0 ∨ sgnI y = 1 ∨ sgnI y = -1 := by
  unfold sgnI; repeat' split
  all_goals first | exact .inl rfl | exact .inr (.inl rfl) | exact .inr (.inr rfl)
theorem sgnI_small (y : Int) : (sgnI y).natAbs < 2 ^ 62 := by rcases sgnI_cases y with h | h | h <;> rw [h] <;> decide
theorem sgnI_small3 (y : Int) : (3 * sgnI y).natAbs < 2 ^ 62 := by rcases sgnI_cases y with h | h | h <;> rw [h] <;> decide
theorem sgnI_wrap3 (y : Int) : wrap64 (3 * sgnI y) = 3 * sgnI y := by
  unfold wrap64
  rcases sgnI_cases y with h | h | h <;> omega
theorem cmpZ_ne (y z : Int) : (cmpZ y z != 0) = !decide (y = z) := by
  have h := cmpZ_zero y z
  rw [← h]; rfl
set_option maxRecDepth 100000 in
set_option maxHeartbeats 8000000 in
theorem ang_a {f : Nat} {u v : Value} {y x : Int} {w : World} (h : CDy w u y (-1074)) (h' : CDy w v x (-1074)) (hy : y.natAbs < 2 ^ 2098) (hx : x.natAbs < 2 ^ 2098) (e1 : y = 0) (e2 : 0 < x) (hT : TabAt 0 Lib.deBruijn64tab w) :
    Calls Tryd.prog 23 #[.int .u8 f, u, v] w fun en w' => ∃ v', en = .returned v' ∧ PO w' w.heap.size v' (some (0, 0)) ∧ Below w.heap.size w w' := by
  obtain ⟨b0, A, n0, c, x0, rfl⟩ := h.ex
  obtain ⟨c0, B, m0, d, y0, rfl⟩ := h'.ex
  have HT := Aside0.mk hT
  have HY := Aside0.mk h
  have HX := Aside0.mk h'
  have OY := Aside0.mk (ok_z hy)
  have OX := Aside0.mk (ok_z hx)
  have OAY := Aside0.mk (ok_z (z := (y.natAbs : Int)) (by rw [Int.natAbs_natCast]; exact hy))
  have OAX := Aside0.mk (ok_z (z := (x.natAbs : Int)) (by rw [Int.natAbs_natCast]; exact hx))
  have hd : decide (y = 0) = true := decide_eq_true e1
  have hs : decide (0 < sgnI x) = true := by rw [sgn_pos]; exact decide_eq_true e2
  clear h h' hy hx hT e1 e2
  go_enter Tryd.func23, Tryd.ntmps23
  have BEL : Aside0 (BelN w 3 (((w.alloc (.cells #[.bool b0, .slice A n0 c, .int .i64 x0] 27)).alloc (.cells #[.bool c0, .slice B m0 d, .int .i64 y0] 27)).alloc (.cells #[.bool false, .slice none 0 0, .int .i64 0, .bool false] 51))) := ⟨((((BelN.zero w).alloc _).alloc _).alloc _).less (by decide)⟩
  have XY : Aside0 ((((w.alloc (.cells #[.bool b0, .slice A n0 c, .int .i64 x0] 27)).alloc (.cells #[.bool c0, .slice B m0 d, .int .i64 y0] 27)).alloc (.cells #[.bool false, .slice none 0 0, .int .i64 0, .bool false] 51)).heap[w.heap.size]? = some (.cells #[.bool b0, .slice A n0 c, .int .i64 x0] 27 (0, 0))) := ⟨by have h := blk_new w (.cells #[.bool b0, .slice A n0 c, .int .i64 x0] 27); exact blk_alloc (blk_alloc (h) _) _⟩
  have XX : Aside0 ((((w.alloc (.cells #[.bool b0, .slice A n0 c, .int .i64 x0] 27)).alloc (.cells #[.bool c0, .slice B m0 d, .int .i64 y0] 27)).alloc (.cells #[.bool false, .slice none 0 0, .int .i64 0, .bool false] 51)).heap[w.heap.size + 1]? = some (.cells #[.bool c0, .slice B m0 d, .int .i64 y0] 27 (0, 0))) := ⟨by have h := blk_new (w.alloc (.cells #[.bool b0, .slice A n0 c, .int .i64 x0] 27)) (.cells #[.bool c0, .slice B m0 d, .int .i64 y0] 27); rw [size_alloc'] at h; exact blk_alloc (h) _⟩
  have XR : Aside0 ((((w.alloc (.cells #[.bool b0, .slice A n0 c, .int .i64 x0] 27)).alloc (.cells #[.bool c0, .slice B m0 d, .int .i64 y0] 27)).alloc (.cells #[.bool false, .slice none 0 0, .int .i64 0, .bool false] 51)).heap[w.heap.size + 1 + 1]? = some (.cells #[.bool false, .slice none 0 0, .int .i64 0, .bool false] 51 (0, 0))) := ⟨by have h := blk_new ((w.alloc (.cells #[.bool b0, .slice A n0 c, .int .i64 x0] 27)).alloc (.cells #[.bool c0, .slice B m0 d, .int .i64 y0] 27)) (.cells #[.bool false, .slice none 0 0, .int .i64 0, .bool false] 51); rw [size_alloc', size_alloc'] at h; exact h⟩
  obtain ⟨q0, q0'⟩ := box_cell XY.out 0 rfl
  obtain ⟨q1, q1'⟩ := box_cell XY.out 1 rfl
  obtain ⟨q2, q2'⟩ := box_cell XY.out 2 rfl
  go_wp2_with fail
  clear q0 q0' q1 q1' q2 q2'
  go_at_call 22
  refine (zero_ok (HY.out.below BEL.out.1) OY.out).mono ?_
  rintro en1 w1 ⟨rfl, hb⟩
  replace BEL := Aside0.mk (BEL.out.next hb)
  replace XY := Aside0.mk (blk_below XY.out hb)
  replace XX := Aside0.mk (blk_below XX.out hb)
  replace XR := Aside0.mk (blk_below XR.out hb)
  clear hb
  obtain ⟨q3, q3'⟩ := box_cell XX.out 0 rfl
  obtain ⟨q4, q4'⟩ := box_cell XX.out 1 rfl
  obtain ⟨q5, q5'⟩ := box_cell XX.out 2 rfl
  go_wp2_with fail
  clear q3 q3' q4 q4' q5 q5'
  go_at_call 45
  refine (sign_ok (HX.out.below BEL.out.1) OX.out).mono ?_
  rintro en2 w2 ⟨rfl, hb⟩
  replace BEL := Aside0.mk (BEL.out.next hb)
  replace XY := Aside0.mk (blk_below XY.out hb)
  replace XX := Aside0.mk (blk_below XX.out hb)
  replace XR := Aside0.mk (blk_below XR.out hb)
  clear hb
  go_wp2_with fail
  have BLW := BEL
  go_at_call 46
  refine (whole_any (0) _ (by decide) (by decide) (tab_below HT.out BEL.out.1)).mono ?_
  rintro en3 w3 ⟨v3, rfl, hr, hb⟩
  replace BEL := Aside0.mk (BEL.out.next hb)
  replace XY := Aside0.mk (blk_below XY.out hb)
  replace XX := Aside0.mk (blk_below XX.out hb)
  replace XR := Aside0.mk (blk_below XR.out hb)
  have P1 := Aside0.mk hr
  obtain ⟨b3, A3, n3, c3, x3, rfl⟩ := hr.ex5
  clear hr hb
  go_wp2_with (((with_reducible refine gate_store (p := 6) rfl ?_); go_must (refine store_box 51 6 (.tmp 15) rfl rfl rfl (g := w.heap.size + 1 + 1) (e := 51) (.agg #[.bool b3, .slice A3 n3 c3, .int .i64 x3, .bool true]) ([.bool b3, .slice A3 n3 c3, .int .i64 x3, .bool true]) rfl rfl rfl info_told ?b1 XR.out rfl ?_; (case b1 => intro q hq; simp at hq; rcases hq with rfl | rfl | rfl | rfl <;> rfl); intro wb hbx hgx; have HX := Aside0.mk hbx; have HG := Aside0.mk hgx; clear hbx hgx)); replace P1 := Aside0.mk (P1.out.grown_box XR.out (by decide) HG.out); replace BEL := Aside0.mk (BEL.out.grown HG.out (by omega)); replace XY := Aside0.mk (blk_grown XY.out HG.out (by omega)); replace XX := Aside0.mk (blk_grown XX.out HG.out (by omega)); replace XR := HX; clear HG)
  refine bodyPost_ret (results_told rfl _ _ (w.heap.size + 1 + 1) _ rfl XR.out rfl) rfl ?_
  exact ⟨_, rfl, P1.out.some.lower (Nat.le_trans (Nat.le_add_right _ _) BLW.out.2), BEL.out.1⟩

set_option maxRecDepth 100000 in
set_option maxHeartbeats 8000000 in
theorem ang_b {f : Nat} {u v : Value} {y x : Int} {w : World} (h : CDy w u y (-1074)) (h' : CDy w v x (-1074)) (hy : y.natAbs < 2 ^ 2098) (hx : x.natAbs < 2 ^ 2098) (e1 : ¬ y = 0) (e2 : f = 33) (hT : TabAt 0 Lib.deBruijn64tab w) :
    Calls Tryd.prog 23 #[.int .u8 f, u, v] w fun en w' => ∃ v', en = .returned v' ∧ PO w' w.heap.size v' (none) ∧ Below w.heap.size w w' := by
  obtain ⟨b0, A, n0, c, x0, rfl⟩ := h.ex
  obtain ⟨c0, B, m0, d, y0, rfl⟩ := h'.ex
  have HT := Aside0.mk hT
  have HY := Aside0.mk h
  have HX := Aside0.mk h'
  have OY := Aside0.mk (ok_z hy)
  have OX := Aside0.mk (ok_z hx)
  have OAY := Aside0.mk (ok_z (z := (y.natAbs : Int)) (by rw [Int.natAbs_natCast]; exact hy))
  have OAX := Aside0.mk (ok_z (z := (x.natAbs : Int)) (by rw [Int.natAbs_natCast]; exact hx))
  have hd : decide (y = 0) = false := decide_eq_false e1
  have hff : ((f : Int) == 33) = true := by simp; omega
  clear h h' hy hx hT e1 e2
  go_enter Tryd.func23, Tryd.ntmps23
  have BEL : Aside0 (BelN w 3 (((w.alloc (.cells #[.bool b0, .slice A n0 c, .int .i64 x0] 27)).alloc (.cells #[.bool c0, .slice B m0 d, .int .i64 y0] 27)).alloc (.cells #[.bool false, .slice none 0 0, .int .i64 0, .bool false] 51))) := ⟨((((BelN.zero w).alloc _).alloc _).alloc _).less (by decide)⟩
  have XY : Aside0 ((((w.alloc (.cells #[.bool b0, .slice A n0 c, .int .i64 x0] 27)).alloc (.cells #[.bool c0, .slice B m0 d, .int .i64 y0] 27)).alloc (.cells #[.bool false, .slice none 0 0, .int .i64 0, .bool false] 51)).heap[w.heap.size]? = some (.cells #[.bool b0, .slice A n0 c, .int .i64 x0] 27 (0, 0))) := ⟨by have h := blk_new w (.cells #[.bool b0, .slice A n0 c, .int .i64 x0] 27); exact blk_alloc (blk_alloc (h) _) _⟩
  have XX : Aside0 ((((w.alloc (.cells #[.bool b0, .slice A n0 c, .int .i64 x0] 27)).alloc (.cells #[.bool c0, .slice B m0 d, .int .i64 y0] 27)).alloc (.cells #[.bool false, .slice none 0 0, .int .i64 0, .bool false] 51)).heap[w.heap.size + 1]? = some (.cells #[.bool c0, .slice B m0 d, .int .i64 y0] 27 (0, 0))) := ⟨by have h := blk_new (w.alloc (.cells #[.bool b0, .slice A n0 c, .int .i64 x0] 27)) (.cells #[.bool c0, .slice B m0 d, .int .i64 y0] 27); rw [size_alloc'] at h; exact blk_alloc (h) _⟩
  have XR : Aside0 ((((w.alloc (.cells #[.bool b0, .slice A n0 c, .int .i64 x0] 27)).alloc (.cells #[.bool c0, .slice B m0 d, .int .i64 y0] 27)).alloc (.cells #[.bool false, .slice none 0 0, .int .i64 0, .bool false] 51)).heap[w.heap.size + 1 + 1]? = some (.cells #[.bool false, .slice none 0 0, .int .i64 0, .bool false] 51 (0, 0))) := ⟨by have h := blk_new ((w.alloc (.cells #[.bool b0, .slice A n0 c, .int .i64 x0] 27)).alloc (.cells #[.bool c0, .slice B m0 d, .int .i64 y0] 27)) (.cells #[.bool false, .slice none 0 0, .int .i64 0, .bool false] 51); rw [size_alloc', size_alloc'] at h; exact h⟩
  obtain ⟨q0, q0'⟩ := box_cell XY.out 0 rfl
  obtain ⟨q1, q1'⟩ := box_cell XY.out 1 rfl
  obtain ⟨q2, q2'⟩ := box_cell XY.out 2 rfl
  go_wp2_with fail
  clear q0 q0' q1 q1' q2 q2'
  go_at_call 22
  refine (zero_ok (HY.out.below BEL.out.1) OY.out).mono ?_
  rintro en1 w1 ⟨rfl, hb⟩
  replace BEL := Aside0.mk (BEL.out.next hb)
  replace XY := Aside0.mk (blk_below XY.out hb)
  replace XX := Aside0.mk (blk_below XX.out hb)
  replace XR := Aside0.mk (blk_below XR.out hb)
  clear hb
  go_wp2_with (((with_reducible refine gate_store (p := 6) rfl ?_); go_must (refine store_box 51 6 (.tmp 18) rfl rfl rfl (g := w.heap.size + 1 + 1) (e := 51) (.agg #[.bool false, .slice none 0 0, .int .i64 0, .bool false]) ([.bool false, .slice none 0 0, .int .i64 0, .bool false]) rfl rfl rfl info_told ?b1 XR.out rfl ?_; (case b1 => intro q hq; simp at hq; rcases hq with rfl | rfl | rfl | rfl <;> rfl); intro wb hbx hgx; have HX := Aside0.mk hbx; have HG := Aside0.mk hgx; clear hbx hgx)); replace BEL := Aside0.mk (BEL.out.grown HG.out (by omega)); replace XY := Aside0.mk (blk_grown XY.out HG.out (by omega)); replace XX := Aside0.mk (blk_grown XX.out HG.out (by omega)); replace XR := HX; clear HG)
  refine bodyPost_ret (results_told rfl _ _ (w.heap.size + 1 + 1) _ rfl XR.out rfl) rfl ?_
  exact ⟨_, rfl, PO.none _ _, BEL.out.1⟩

set_option maxRecDepth 100000 in
set_option maxHeartbeats 8000000 in
theorem ang_c {f : Nat} {u v : Value} {y x : Int} {w : World} (h : CDy w u y (-1074)) (h' : CDy w v x (-1074)) (hy : y.natAbs < 2 ^ 2098) (hx : x.natAbs < 2 ^ 2098) (e1 : y = 0) (e3 : ¬ 0 < x) (e2 : f = 33) (hT : TabAt 0 Lib.deBruijn64tab w) :
    Calls Tryd.prog 23 #[.int .u8 f, u, v] w fun en w' => ∃ v', en = .returned v' ∧ PO w' w.heap.size v' (none) ∧ Below w.heap.size w w' := by
  obtain ⟨b0, A, n0, c, x0, rfl⟩ := h.ex
  obtain ⟨c0, B, m0, d, y0, rfl⟩ := h'.ex
  have HT := Aside0.mk hT
  have HY := Aside0.mk h
  have HX := Aside0.mk h'
  have OY := Aside0.mk (ok_z hy)
  have OX := Aside0.mk (ok_z hx)
  have OAY := Aside0.mk (ok_z (z := (y.natAbs : Int)) (by rw [Int.natAbs_natCast]; exact hy))
  have OAX := Aside0.mk (ok_z (z := (x.natAbs : Int)) (by rw [Int.natAbs_natCast]; exact hx))
  have hd : decide (y = 0) = true := decide_eq_true e1
  have hs : decide (0 < sgnI x) = false := by rw [sgn_pos]; exact decide_eq_false e3
  have hff : ((f : Int) == 33) = true := by simp; omega
  clear h h' hy hx hT e1 e2 e3
  go_enter Tryd.func23, Tryd.ntmps23
  have BEL : Aside0 (BelN w 3 (((w.alloc (.cells #[.bool b0, .slice A n0 c, .int .i64 x0] 27)).alloc (.cells #[.bool c0, .slice B m0 d, .int .i64 y0] 27)).alloc (.cells #[.bool false, .slice none 0 0, .int .i64 0, .bool false] 51))) := ⟨((((BelN.zero w).alloc _).alloc _).alloc _).less (by decide)⟩
  have XY : Aside0 ((((w.alloc (.cells #[.bool b0, .slice A n0 c, .int .i64 x0] 27)).alloc (.cells #[.bool c0, .slice B m0 d, .int .i64 y0] 27)).alloc (.cells #[.bool false, .slice none 0 0, .int .i64 0, .bool false] 51)).heap[w.heap.size]? = some (.cells #[.bool b0, .slice A n0 c, .int .i64 x0] 27 (0, 0))) := ⟨by have h := blk_new w (.cells #[.bool b0, .slice A n0 c, .int .i64 x0] 27); exact blk_alloc (blk_alloc (h) _) _⟩
  have XX : Aside0 ((((w.alloc (.cells #[.bool b0, .slice A n0 c, .int .i64 x0] 27)).alloc (.cells #[.bool c0, .slice B m0 d, .int .i64 y0] 27)).alloc (.cells #[.bool false, .slice none 0 0, .int .i64 0, .bool false] 51)).heap[w.heap.size + 1]? = some (.cells #[.bool c0, .slice B m0 d, .int .i64 y0] 27 (0, 0))) := ⟨by have h := blk_new (w.alloc (.cells #[.bool b0, .slice A n0 c, .int .i64 x0] 27)) (.cells #[.bool c0, .slice B m0 d, .int .i64 y0] 27); rw [size_alloc'] at h; exact blk_alloc (h) _⟩
  have XR : Aside0 ((((w.alloc (.cells #[.bool b0, .slice A n0 c, .int .i64 x0] 27)).alloc (.cells #[.bool c0, .slice B m0 d, .int .i64 y0] 27)).alloc (.cells #[.bool false, .slice none 0 0, .int .i64 0, .bool false] 51)).heap[w.heap.size + 1 + 1]? = some (.cells #[.bool false, .slice none 0 0, .int .i64 0, .bool false] 51 (0, 0))) := ⟨by have h := blk_new ((w.alloc (.cells #[.bool b0, .slice A n0 c, .int .i64 x0] 27)).alloc (.cells #[.bool c0, .slice B m0 d, .int .i64 y0] 27)) (.cells #[.bool false, .slice none 0 0, .int .i64 0, .bool false] 51); rw [size_alloc', size_alloc'] at h; exact h⟩
  obtain ⟨q0, q0'⟩ := box_cell XY.out 0 rfl
  obtain ⟨q1, q1'⟩ := box_cell XY.out 1 rfl
  obtain ⟨q2, q2'⟩ := box_cell XY.out 2 rfl
  go_wp2_with fail
  clear q0 q0' q1 q1' q2 q2'
  go_at_call 22
  refine (zero_ok (HY.out.below BEL.out.1) OY.out).mono ?_
  rintro en1 w1 ⟨rfl, hb⟩
  replace BEL := Aside0.mk (BEL.out.next hb)
  replace XY := Aside0.mk (blk_below XY.out hb)
  replace XX := Aside0.mk (blk_below XX.out hb)
  replace XR := Aside0.mk (blk_below XR.out hb)
  clear hb
  obtain ⟨q3, q3'⟩ := box_cell XX.out 0 rfl
  obtain ⟨q4, q4'⟩ := box_cell XX.out 1 rfl
  obtain ⟨q5, q5'⟩ := box_cell XX.out 2 rfl
  go_wp2_with fail
  clear q3 q3' q4 q4' q5 q5'
  go_at_call 45
  refine (sign_ok (HX.out.below BEL.out.1) OX.out).mono ?_
  rintro en2 w2 ⟨rfl, hb⟩
  replace BEL := Aside0.mk (BEL.out.next hb)
  replace XY := Aside0.mk (blk_below XY.out hb)
  replace XX := Aside0.mk (blk_below XX.out hb)
  replace XR := Aside0.mk (blk_below XR.out hb)
  clear hb
  go_wp2_with (((with_reducible refine gate_store (p := 6) rfl ?_); go_must (refine store_box 51 6 (.tmp 18) rfl rfl rfl (g := w.heap.size + 1 + 1) (e := 51) (.agg #[.bool false, .slice none 0 0, .int .i64 0, .bool false]) ([.bool false, .slice none 0 0, .int .i64 0, .bool false]) rfl rfl rfl info_told ?b1 XR.out rfl ?_; (case b1 => intro q hq; simp at hq; rcases hq with rfl | rfl | rfl | rfl <;> rfl); intro wb hbx hgx; have HX := Aside0.mk hbx; have HG := Aside0.mk hgx; clear hbx hgx)); replace BEL := Aside0.mk (BEL.out.grown HG.out (by omega)); replace XY := Aside0.mk (blk_grown XY.out HG.out (by omega)); replace XX := Aside0.mk (blk_grown XX.out HG.out (by omega)); replace XR := HX; clear HG)
  refine bodyPost_ret (results_told rfl _ _ (w.heap.size + 1 + 1) _ rfl XR.out rfl) rfl ?_
  exact ⟨_, rfl, PO.none _ _, BEL.out.1⟩

set_option maxRecDepth 100000 in
set_option maxHeartbeats 8000000 in
theorem ang_d {f : Nat} {u v : Value} {y x : Int} {w : World} (h : CDy w u y (-1074)) (h' : CDy w v x (-1074)) (hy : y.natAbs < 2 ^ 2098) (hx : x.natAbs < 2 ^ 2098) (e1 : y = 0) (e3 : ¬ 0 < x) (e2 : ¬ f = 33) (hT : TabAt 0 Lib.deBruijn64tab w) :
    Calls Tryd.prog 23 #[.int .u8 f, u, v] w fun en w' => ∃ v', en = .returned v' ∧ PO w' w.heap.size v' (some (1, 0)) ∧ Below w.heap.size w w' := by
  obtain ⟨b0, A, n0, c, x0, rfl⟩ := h.ex
  obtain ⟨c0, B, m0, d, y0, rfl⟩ := h'.ex
  have HT := Aside0.mk hT
  have HY := Aside0.mk h
  have HX := Aside0.mk h'
  have OY := Aside0.mk (ok_z hy)
  have OX := Aside0.mk (ok_z hx)
  have OAY := Aside0.mk (ok_z (z := (y.natAbs : Int)) (by rw [Int.natAbs_natCast]; exact hy))
  have OAX := Aside0.mk (ok_z (z := (x.natAbs : Int)) (by rw [Int.natAbs_natCast]; exact hx))
  have hd : decide (y = 0) = true := decide_eq_true e1
  have hs : decide (0 < sgnI x) = false := by rw [sgn_pos]; exact decide_eq_false e3
  have hff : ((f : Int) == 33) = false := by simp; omega
  clear h h' hy hx hT e1 e2 e3
  go_enter Tryd.func23, Tryd.ntmps23
  have BEL : Aside0 (BelN w 3 (((w.alloc (.cells #[.bool b0, .slice A n0 c, .int .i64 x0] 27)).alloc (.cells #[.bool c0, .slice B m0 d, .int .i64 y0] 27)).alloc (.cells #[.bool false, .slice none 0 0, .int .i64 0, .bool false] 51))) := ⟨((((BelN.zero w).alloc _).alloc _).alloc _).less (by decide)⟩
  have XY : Aside0 ((((w.alloc (.cells #[.bool b0, .slice A n0 c, .int .i64 x0] 27)).alloc (.cells #[.bool c0, .slice B m0 d, .int .i64 y0] 27)).alloc (.cells #[.bool false, .slice none 0 0, .int .i64 0, .bool false] 51)).heap[w.heap.size]? = some (.cells #[.bool b0, .slice A n0 c, .int .i64 x0] 27 (0, 0))) := ⟨by have h := blk_new w (.cells #[.bool b0, .slice A n0 c, .int .i64 x0] 27); exact blk_alloc (blk_alloc (h) _) _⟩
  have XX : Aside0 ((((w.alloc (.cells #[.bool b0, .slice A n0 c, .int .i64 x0] 27)).alloc (.cells #[.bool c0, .slice B m0 d, .int .i64 y0] 27)).alloc (.cells #[.bool false, .slice none 0 0, .int .i64 0, .bool false] 51)).heap[w.heap.size + 1]? = some (.cells #[.bool c0, .slice B m0 d, .int .i64 y0] 27 (0, 0))) := ⟨by have h := blk_new (w.alloc (.cells #[.bool b0, .slice A n0 c, .int .i64 x0] 27)) (.cells #[.bool c0, .slice B m0 d, .int .i64 y0] 27); rw [size_alloc'] at h; exact blk_alloc (h) _⟩
  have XR : Aside0 ((((w.alloc (.cells #[.bool b0, .slice A n0 c, .int .i64 x0] 27)).alloc (.cells #[.bool c0, .slice B m0 d, .int .i64 y0] 27)).alloc (.cells #[.bool false, .slice none 0 0, .int .i64 0, .bool false] 51)).heap[w.heap.size + 1 + 1]? = some (.cells #[.bool false, .slice none 0 0, .int .i64 0, .bool false] 51 (0, 0))) := ⟨by have h := blk_new ((w.alloc (.cells #[.bool b0, .slice A n0 c, .int .i64 x0] 27)).alloc (.cells #[.bool c0, .slice B m0 d, .int .i64 y0] 27)) (.cells #[.bool false, .slice none 0 0, .int .i64 0, .bool false] 51); rw [size_alloc', size_alloc'] at h; exact h⟩
  obtain ⟨q0, q0'⟩ := box_cell XY.out 0 rfl
  obtain ⟨q1, q1'⟩ := box_cell XY.out 1 rfl
  obtain ⟨q2, q2'⟩ := box_cell XY.out 2 rfl
  go_wp2_with fail
  clear q0 q0' q1 q1' q2 q2'
  go_at_call 22
  refine (zero_ok (HY.out.below BEL.out.1) OY.out).mono ?_
  rintro en1 w1 ⟨rfl, hb⟩
  replace BEL := Aside0.mk (BEL.out.next hb)
  replace XY := Aside0.mk (blk_below XY.out hb)
  replace XX := Aside0.mk (blk_below XX.out hb)
  replace XR := Aside0.mk (blk_below XR.out hb)
  clear hb
  obtain ⟨q3, q3'⟩ := box_cell XX.out 0 rfl
  obtain ⟨q4, q4'⟩ := box_cell XX.out 1 rfl
  obtain ⟨q5, q5'⟩ := box_cell XX.out 2 rfl
  go_wp2_with fail
  clear q3 q3' q4 q4' q5 q5'
  go_at_call 45
  refine (sign_ok (HX.out.below BEL.out.1) OX.out).mono ?_
  rintro en2 w2 ⟨rfl, hb⟩
  replace BEL := Aside0.mk (BEL.out.next hb)
  replace XY := Aside0.mk (blk_below XY.out hb)
  replace XX := Aside0.mk (blk_below XX.out hb)
  replace XR := Aside0.mk (blk_below XR.out hb)
  clear hb
  obtain ⟨q6, q6'⟩ := box_cell XY.out 0 rfl
  obtain ⟨q7, q7'⟩ := box_cell XY.out 1 rfl
  obtain ⟨q8, q8'⟩ := box_cell XY.out 2 rfl
  go_wp2_with fail
  clear q6 q6' q7 q7' q8 q8'
  go_at_call 45
  refine (sign_ok (HY.out.below BEL.out.1) OY.out).mono ?_
  rintro en3 w3 ⟨rfl, hb⟩
  replace BEL := Aside0.mk (BEL.out.next hb)
  replace XY := Aside0.mk (blk_below XY.out hb)
  replace XX := Aside0.mk (blk_below XX.out hb)
  replace XR := Aside0.mk (blk_below XR.out hb)
  clear hb
  obtain ⟨q9, q9'⟩ := box_cell XY.out 0 rfl
  obtain ⟨q10, q10'⟩ := box_cell XY.out 1 rfl
  obtain ⟨q11, q11'⟩ := box_cell XY.out 2 rfl
  go_wp2_with fail
  clear q9 q9' q10 q10' q11 q11'
  go_at_call 22
  refine (zero_ok (HY.out.below BEL.out.1) OY.out).mono ?_
  rintro en4 w4 ⟨rfl, hb⟩
  replace BEL := Aside0.mk (BEL.out.next hb)
  replace XY := Aside0.mk (blk_below XY.out hb)
  replace XX := Aside0.mk (blk_below XX.out hb)
  replace XR := Aside0.mk (blk_below XR.out hb)
  clear hb
  go_wp2_with fail
  have BLW := BEL
  go_at_call 46
  refine (whole_any (1) _ (by decide) (by decide) (tab_below HT.out BEL.out.1)).mono ?_
  rintro en5 w5 ⟨v5, rfl, hr, hb⟩
  replace BEL := Aside0.mk (BEL.out.next hb)
  replace XY := Aside0.mk (blk_below XY.out hb)
  replace XX := Aside0.mk (blk_below XX.out hb)
  replace XR := Aside0.mk (blk_below XR.out hb)
  have P1 := Aside0.mk hr
  obtain ⟨b5, A5, n5, c5, x5, rfl⟩ := hr.ex5
  clear hr hb
  go_wp2_with (((with_reducible refine gate_store (p := 6) rfl ?_); go_must (refine store_box 51 6 (.tmp 24) rfl rfl rfl (g := w.heap.size + 1 + 1) (e := 51) (.agg #[.bool b5, .slice A5 n5 c5, .int .i64 x5, .bool true]) ([.bool b5, .slice A5 n5 c5, .int .i64 x5, .bool true]) rfl rfl rfl info_told ?b1 XR.out rfl ?_; (case b1 => intro q hq; simp at hq; rcases hq with rfl | rfl | rfl | rfl <;> rfl); intro wb hbx hgx; have HX := Aside0.mk hbx; have HG := Aside0.mk hgx; clear hbx hgx)); replace P1 := Aside0.mk (P1.out.grown_box XR.out (by decide) HG.out); replace BEL := Aside0.mk (BEL.out.grown HG.out (by omega)); replace XY := Aside0.mk (blk_grown XY.out HG.out (by omega)); replace XX := Aside0.mk (blk_grown XX.out HG.out (by omega)); replace XR := HX; clear HG)
  refine bodyPost_ret (results_told rfl _ _ (w.heap.size + 1 + 1) _ rfl XR.out rfl) rfl ?_
  exact ⟨_, rfl, P1.out.some.lower (Nat.le_trans (Nat.le_add_right _ _) BLW.out.2), BEL.out.1⟩

set_option maxRecDepth 100000 in
set_option maxHeartbeats 8000000 in
theorem ang_e {f : Nat} {u v : Value} {y x : Int} {w : World} (h : CDy w u y (-1074)) (h' : CDy w v x (-1074)) (hy : y.natAbs < 2 ^ 2098) (hx : x.natAbs < 2 ^ 2098) (e1 : ¬ y = 0) (e3 : x = 0) (e2 : ¬ f = 33) (hT : TabAt 0 Lib.deBruijn64tab w) :
    Calls Tryd.prog 23 #[.int .u8 f, u, v] w fun en w' => ∃ v', en = .returned v' ∧ PO w' w.heap.size v' (some (sgnI y, 0 + -1)) ∧ Below w.heap.size w w' := by
  obtain ⟨b0, A, n0, c, x0, rfl⟩ := h.ex
  obtain ⟨c0, B, m0, d, y0, rfl⟩ := h'.ex
  have HT := Aside0.mk hT
  have HY := Aside0.mk h
  have HX := Aside0.mk h'
  have OY := Aside0.mk (ok_z hy)
  have OX := Aside0.mk (ok_z hx)
  have OAY := Aside0.mk (ok_z (z := (y.natAbs : Int)) (by rw [Int.natAbs_natCast]; exact hy))
  have OAX := Aside0.mk (ok_z (z := (x.natAbs : Int)) (by rw [Int.natAbs_natCast]; exact hx))
  have hd : decide (y = 0) = false := decide_eq_false e1
  have hdx : decide (x = 0) = true := decide_eq_true e3
  have hff : ((f : Int) == 33) = false := by simp; omega
  clear h h' hy hx hT e1 e2 e3
  go_enter Tryd.func23, Tryd.ntmps23
  have BEL : Aside0 (BelN w 3 (((w.alloc (.cells #[.bool b0, .slice A n0 c, .int .i64 x0] 27)).alloc (.cells #[.bool c0, .slice B m0 d, .int .i64 y0] 27)).alloc (.cells #[.bool false, .slice none 0 0, .int .i64 0, .bool false] 51))) := ⟨((((BelN.zero w).alloc _).alloc _).alloc _).less (by decide)⟩
  have XY : Aside0 ((((w.alloc (.cells #[.bool b0, .slice A n0 c, .int .i64 x0] 27)).alloc (.cells #[.bool c0, .slice B m0 d, .int .i64 y0] 27)).alloc (.cells #[.bool false, .slice none 0 0, .int .i64 0, .bool false] 51)).heap[w.heap.size]? = some (.cells #[.bool b0, .slice A n0 c, .int .i64 x0] 27 (0, 0))) := ⟨by have h := blk_new w (.cells #[.bool b0, .slice A n0 c, .int .i64 x0] 27); exact blk_alloc (blk_alloc (h) _) _⟩
  have XX : Aside0 ((((w.alloc (.cells #[.bool b0, .slice A n0 c, .int .i64 x0] 27)).alloc (.cells #[.bool c0, .slice B m0 d, .int .i64 y0] 27)).alloc (.cells #[.bool false, .slice none 0 0, .int .i64 0, .bool false] 51)).heap[w.heap.size + 1]? = some (.cells #[.bool c0, .slice B m0 d, .int .i64 y0] 27 (0, 0))) := ⟨by have h := blk_new (w.alloc (.cells #[.bool b0, .slice A n0 c, .int .i64 x0] 27)) (.cells #[.bool c0, .slice B m0 d, .int .i64 y0] 27); rw [size_alloc'] at h; exact blk_alloc (h) _⟩
  have XR : Aside0 ((((w.alloc (.cells #[.bool b0, .slice A n0 c, .int .i64 x0] 27)).alloc (.cells #[.bool c0, .slice B m0 d, .int .i64 y0] 27)).alloc (.cells #[.bool false, .slice none 0 0, .int .i64 0, .bool false] 51)).heap[w.heap.size + 1 + 1]? = some (.cells #[.bool false, .slice none 0 0, .int .i64 0, .bool false] 51 (0, 0))) := ⟨by have h := blk_new ((w.alloc (.cells #[.bool b0, .slice A n0 c, .int .i64 x0] 27)).alloc (.cells #[.bool c0, .slice B m0 d, .int .i64 y0] 27)) (.cells #[.bool false, .slice none 0 0, .int .i64 0, .bool false] 51); rw [size_alloc', size_alloc'] at h; exact h⟩
  obtain ⟨q0, q0'⟩ := box_cell XY.out 0 rfl
  obtain ⟨q1, q1'⟩ := box_cell XY.out 1 rfl
  obtain ⟨q2, q2'⟩ := box_cell XY.out 2 rfl
  go_wp2_with fail
  clear q0 q0' q1 q1' q2 q2'
  go_at_call 22
  refine (zero_ok (HY.out.below BEL.out.1) OY.out).mono ?_
  rintro en1 w1 ⟨rfl, hb⟩
  replace BEL := Aside0.mk (BEL.out.next hb)
  replace XY := Aside0.mk (blk_below XY.out hb)
  replace XX := Aside0.mk (blk_below XX.out hb)
  replace XR := Aside0.mk (blk_below XR.out hb)
  clear hb
  obtain ⟨q3, q3'⟩ := box_cell XY.out 0 rfl
  obtain ⟨q4, q4'⟩ := box_cell XY.out 1 rfl
  obtain ⟨q5, q5'⟩ := box_cell XY.out 2 rfl
  go_wp2_with fail
  clear q3 q3' q4 q4' q5 q5'
  go_at_call 45
  refine (sign_ok (HY.out.below BEL.out.1) OY.out).mono ?_
  rintro en2 w2 ⟨rfl, hb⟩
  replace BEL := Aside0.mk (BEL.out.next hb)
  replace XY := Aside0.mk (blk_below XY.out hb)
  replace XX := Aside0.mk (blk_below XX.out hb)
  replace XR := Aside0.mk (blk_below XR.out hb)
  clear hb
  obtain ⟨q6, q6'⟩ := box_cell XY.out 0 rfl
  obtain ⟨q7, q7'⟩ := box_cell XY.out 1 rfl
  obtain ⟨q8, q8'⟩ := box_cell XY.out 2 rfl
  go_wp2_with fail
  clear q6 q6' q7 q7' q8 q8'
  go_at_call 22
  refine (zero_ok (HY.out.below BEL.out.1) OY.out).mono ?_
  rintro en3 w3 ⟨rfl, hb⟩
  replace BEL := Aside0.mk (BEL.out.next hb)
  replace XY := Aside0.mk (blk_below XY.out hb)
  replace XX := Aside0.mk (blk_below XX.out hb)
  replace XR := Aside0.mk (blk_below XR.out hb)
  clear hb
  obtain ⟨q9, q9'⟩ := box_cell XX.out 0 rfl
  obtain ⟨q10, q10'⟩ := box_cell XX.out 1 rfl
  obtain ⟨q11, q11'⟩ := box_cell XX.out 2 rfl
  go_wp2_with fail
  clear q9 q9' q10 q10' q11 q11'
  go_at_call 22
  refine (zero_ok (HX.out.below BEL.out.1) OX.out).mono ?_
  rintro en4 w4 ⟨rfl, hb⟩
  replace BEL := Aside0.mk (BEL.out.next hb)
  replace XY := Aside0.mk (blk_below XY.out hb)
  replace XX := Aside0.mk (blk_below XX.out hb)
  replace XR := Aside0.mk (blk_below XR.out hb)
  clear hb
  go_wp2_with fail
  have BLW := BEL
  go_at_call 47
  refine (part_any (sgnI y) 1 _ (sgnI_small y) (by decide) (by decide) (tab_below HT.out BEL.out.1)).mono ?_
  rintro en5 w5 ⟨v5, rfl, hr, hb⟩
  replace BEL := Aside0.mk (BEL.out.next hb)
  replace XY := Aside0.mk (blk_below XY.out hb)
  replace XX := Aside0.mk (blk_below XX.out hb)
  replace XR := Aside0.mk (blk_below XR.out hb)
  have P1 := Aside0.mk hr
  obtain ⟨b5, A5, n5, c5, x5, rfl⟩ := hr.ex5
  clear hr hb
  go_wp2_with (((with_reducible refine gate_store (p := 6) rfl ?_); go_must (refine store_box 51 6 (.tmp 29) rfl rfl rfl (g := w.heap.size + 1 + 1) (e := 51) (.agg #[.bool b5, .slice A5 n5 c5, .int .i64 x5, .bool true]) ([.bool b5, .slice A5 n5 c5, .int .i64 x5, .bool true]) rfl rfl rfl info_told ?b1 XR.out rfl ?_; (case b1 => intro q hq; simp at hq; rcases hq with rfl | rfl | rfl | rfl <;> rfl); intro wb hbx hgx; have HX := Aside0.mk hbx; have HG := Aside0.mk hgx; clear hbx hgx)); replace P1 := Aside0.mk (P1.out.grown_box XR.out (by decide) HG.out); replace BEL := Aside0.mk (BEL.out.grown HG.out (by omega)); replace XY := Aside0.mk (blk_grown XY.out HG.out (by omega)); replace XX := Aside0.mk (blk_grown XX.out HG.out (by omega)); replace XR := HX; clear HG)
  refine bodyPost_ret (results_told rfl _ _ (w.heap.size + 1 + 1) _ rfl XR.out rfl) rfl ?_
  exact ⟨_, rfl, P1.out.some.lower (Nat.le_trans (Nat.le_add_right _ _) BLW.out.2), BEL.out.1⟩

set_option maxRecDepth 100000 in
set_option maxHeartbeats 8000000 in
theorem ang_f {f : Nat} {u v : Value} {y x : Int} {w : World} (h : CDy w u y (-1074)) (h' : CDy w v x (-1074)) (hy : y.natAbs < 2 ^ 2098) (hx : x.natAbs < 2 ^ 2098) (e1 : ¬ y = 0) (e3 : ¬ x = 0) (e2 : ¬ f = 33) (e4 : ¬ (y.natAbs : Int) = x.natAbs) (hT : TabAt 0 Lib.deBruijn64tab w) :
    Calls Tryd.prog 23 #[.int .u8 f, u, v] w fun en w' => ∃ v', en = .returned v' ∧ PO w' w.heap.size v' (none) ∧ Below w.heap.size w w' := by
  obtain ⟨b0, A, n0, c, x0, rfl⟩ := h.ex
  obtain ⟨c0, B, m0, d, y0, rfl⟩ := h'.ex
  have HT := Aside0.mk hT
  have HY := Aside0.mk h
  have HX := Aside0.mk h'
  have OY := Aside0.mk (ok_z hy)
  have OX := Aside0.mk (ok_z hx)
  have OAY := Aside0.mk (ok_z (z := (y.natAbs : Int)) (by rw [Int.natAbs_natCast]; exact hy))
  have OAX := Aside0.mk (ok_z (z := (x.natAbs : Int)) (by rw [Int.natAbs_natCast]; exact hx))
  have hd : decide (y = 0) = false := decide_eq_false e1
  have hdx : decide (x = 0) = false := decide_eq_false e3
  have hff : ((f : Int) == 33) = false := by simp; omega
  have HCE : Aside0 ((cmpZ (y.natAbs : Int) (x.natAbs : Int) != 0) = true) := ⟨by rw [cmpZ_ne]; simp; exact e4⟩
  clear h h' hy hx hT e1 e2 e3 e4
  go_enter Tryd.func23, Tryd.ntmps23
  have BEL : Aside0 (BelN w 3 (((w.alloc (.cells #[.bool b0, .slice A n0 c, .int .i64 x0] 27)).alloc (.cells #[.bool c0, .slice B m0 d, .int .i64 y0] 27)).alloc (.cells #[.bool false, .slice none 0 0, .int .i64 0, .bool false] 51))) := ⟨((((BelN.zero w).alloc _).alloc _).alloc _).less (by decide)⟩
  have XY : Aside0 ((((w.alloc (.cells #[.bool b0, .slice A n0 c, .int .i64 x0] 27)).alloc (.cells #[.bool c0, .slice B m0 d, .int .i64 y0] 27)).alloc (.cells #[.bool false, .slice none 0 0, .int .i64 0, .bool false] 51)).heap[w.heap.size]? = some (.cells #[.bool b0, .slice A n0 c, .int .i64 x0] 27 (0, 0))) := ⟨by have h := blk_new w (.cells #[.bool b0, .slice A n0 c, .int .i64 x0] 27); exact blk_alloc (blk_alloc (h) _) _⟩
  have XX : Aside0 ((((w.alloc (.cells #[.bool b0, .slice A n0 c, .int .i64 x0] 27)).alloc (.cells #[.bool c0, .slice B m0 d, .int .i64 y0] 27)).alloc (.cells #[.bool false, .slice none 0 0, .int .i64 0, .bool false] 51)).heap[w.heap.size + 1]? = some (.cells #[.bool c0, .slice B m0 d, .int .i64 y0] 27 (0, 0))) := ⟨by have h := blk_new (w.alloc (.cells #[.bool b0, .slice A n0 c, .int .i64 x0] 27)) (.cells #[.bool c0, .slice B m0 d, .int .i64 y0] 27); rw [size_alloc'] at h; exact blk_alloc (h) _⟩
  have XR : Aside0 ((((w.alloc (.cells #[.bool b0, .slice A n0 c, .int .i64 x0] 27)).alloc (.cells #[.bool c0, .slice B m0 d, .int .i64 y0] 27)).alloc (.cells #[.bool false, .slice none 0 0, .int .i64 0, .bool false] 51)).heap[w.heap.size + 1 + 1]? = some (.cells #[.bool false, .slice none 0 0, .int .i64 0, .bool false] 51 (0, 0))) := ⟨by have h := blk_new ((w.alloc (.cells #[.bool b0, .slice A n0 c, .int .i64 x0] 27)).alloc (.cells #[.bool c0, .slice B m0 d, .int .i64 y0] 27)) (.cells #[.bool false, .slice none 0 0, .int .i64 0, .bool false] 51); rw [size_alloc', size_alloc'] at h; exact h⟩
  obtain ⟨q0, q0'⟩ := box_cell XY.out 0 rfl
  obtain ⟨q1, q1'⟩ := box_cell XY.out 1 rfl
  obtain ⟨q2, q2'⟩ := box_cell XY.out 2 rfl
  go_wp2_with fail
  clear q0 q0' q1 q1' q2 q2'
  go_at_call 22
  refine (zero_ok (HY.out.below BEL.out.1) OY.out).mono ?_
  rintro en1 w1 ⟨rfl, hb⟩
  replace BEL := Aside0.mk (BEL.out.next hb)
  replace XY := Aside0.mk (blk_below XY.out hb)
  replace XX := Aside0.mk (blk_below XX.out hb)
  replace XR := Aside0.mk (blk_below XR.out hb)
  clear hb
  obtain ⟨q3, q3'⟩ := box_cell XY.out 0 rfl
  obtain ⟨q4, q4'⟩ := box_cell XY.out 1 rfl
  obtain ⟨q5, q5'⟩ := box_cell XY.out 2 rfl
  go_wp2_with fail
  clear q3 q3' q4 q4' q5 q5'
  go_at_call 45
  refine (sign_ok (HY.out.below BEL.out.1) OY.out).mono ?_
  rintro en2 w2 ⟨rfl, hb⟩
  replace BEL := Aside0.mk (BEL.out.next hb)
  replace XY := Aside0.mk (blk_below XY.out hb)
  replace XX := Aside0.mk (blk_below XX.out hb)
  replace XR := Aside0.mk (blk_below XR.out hb)
  clear hb
  obtain ⟨q6, q6'⟩ := box_cell XY.out 0 rfl
  obtain ⟨q7, q7'⟩ := box_cell XY.out 1 rfl
  obtain ⟨q8, q8'⟩ := box_cell XY.out 2 rfl
  go_wp2_with fail
  clear q6 q6' q7 q7' q8 q8'
  go_at_call 22
  refine (zero_ok (HY.out.below BEL.out.1) OY.out).mono ?_
  rintro en3 w3 ⟨rfl, hb⟩
  replace BEL := Aside0.mk (BEL.out.next hb)
  replace XY := Aside0.mk (blk_below XY.out hb)
  replace XX := Aside0.mk (blk_below XX.out hb)
  replace XR := Aside0.mk (blk_below XR.out hb)
  clear hb
  obtain ⟨q9, q9'⟩ := box_cell XX.out 0 rfl
  obtain ⟨q10, q10'⟩ := box_cell XX.out 1 rfl
  obtain ⟨q11, q11'⟩ := box_cell XX.out 2 rfl
  go_wp2_with fail
  clear q9 q9' q10 q10' q11 q11'
  go_at_call 22
  refine (zero_ok (HX.out.below BEL.out.1) OX.out).mono ?_
  rintro en4 w4 ⟨rfl, hb⟩
  replace BEL := Aside0.mk (BEL.out.next hb)
  replace XY := Aside0.mk (blk_below XY.out hb)
  replace XX := Aside0.mk (blk_below XX.out hb)
  replace XR := Aside0.mk (blk_below XR.out hb)
  clear hb
  go_upto_region 10 with fail
  obtain ⟨GM, hGM⟩ : ∃ G : (Nat → Prop) → (Nat → Value) → World → Prop, G = fun L v W => BelN w 3 W ∧ W.heap[w.heap.size]? = some (.cells #[.bool b0, .slice A n0 c, .int .i64 x0] 27 (0, 0)) ∧ W.heap[w.heap.size + 1]? = some (.cells #[.bool c0, .slice B m0 d, .int .i64 y0] 27 (0, 0)) ∧ W.heap[w.heap.size + 1 + 1]? = some (.cells #[.bool false, .slice none 0 0, .int .i64 0, .bool false] 51 (0, 0)) ∧ (L 0 → (v 0) = .agg #[.bool b0, .slice A n0 c, .int .i64 x0]) ∧ (L 1 → PDy W w.heap.size (v 1) (y.natAbs : Int) (-1074)) ∧ (L 2 → (v 2) = .agg #[.bool c0, .slice B m0 d, .int .i64 y0]) ∧ (L 3 → PDy W w.heap.size (v 3) (x.natAbs : Int) (-1074)) ∧ (L 4 → (v 4) = .int .i64 (cmpZ (y.natAbs : Int) (x.natAbs : Int))) ∧ (L 5 → (v 5) = .bool true) ∧ (L 6 → (v 6) = .bool true) := ⟨_, rfl⟩
  refine wp_region_slotsV [31, 32, 33, 34, 35, 36, 30] (by kernel_rfl) (by kernel_rfl) (G := GM) ?h0M ?hstepM ?hendM
  case h0M =>
    intro v; rw [hGM]
    exact ⟨BEL.out.next (below_drew (Below.refl _ _)), blk_drew XY.out, blk_drew XX.out, blk_drew XR.out, fun h => h.elim, fun h => h.elim, fun h => h.elim, fun h => h.elim, fun h => h.elim, fun h => h.elim, fun h => h.elim⟩
  case hstepM =>
    intro k o ho v W L hGv hnk haft hcl K hK
    rw [hGM] at hGv
    obtain ⟨hB, hb0, hb1, hb2, f0, f1, f2, f3, f4, f5, f6⟩ := hGv
    rcases k with _ | _ | _ | _ | _ | _ | _ | k
    all_goals first
      | (cases ho; done)
      | (obtain rfl := (Option.some.inj ho).symm
         clear ho
         rw [if_pos (by rfl)]
         simp only [setAll, List.setIfInBounds_toArray, List.set_cons_zero, List.set_cons_succ, List.set_nil, List.getElem_toArray, List.getElem_cons_zero, List.getElem_cons_succ, Nat.reduceAdd] at haft hK ⊢)
    case zero =>
      have cc0 := (box_cell (v := .bool b0) hb0 0 rfl).1
      have cc1 := (box_cell (v := .slice A n0 c) hb0 1 rfl).1
      have cc2 := (box_cell (v := .int .i64 x0) hb0 2 rfl).1
      have hb := Below.refl W.heap.size W
      have key := hK.out (.agg #[.bool b0, .slice A n0 c, .int .i64 x0]) W (by rw [hGM]; exact ⟨hB.next hb, blk_below hb0 hb, blk_below hb1 hb, blk_below hb2 hb, fun _ => by rw [upd_eq], (kd f1 (by decide) hb), (kv f2 (by decide)), (kd f3 (by decide) hb), (kv f4 (by decide)), (kv f5 (by decide)), (kv f6 (by decide))⟩)
      clear hb0 hb1 hb2 f0 f1 f2 f3 f4 f5 f6 hb hK
      go_simp
      simpa [upd] using key
    case succ.zero =>
      have d0 := f0 (haft { on := 0, ground := .data } (by simp) rfl)
      have D0 := d0
      have HALL := Aside0.mk (And.intro hK (And.intro hB (And.intro hb0 ( And.intro hb1 ( And.intro hb2 ( And.intro f0 ( And.intro f1 ( And.intro f2 ( And.intro f3 ( And.intro f4 ( And.intro f5 ( And.intro f6 (True.intro)))))))))))))
      clear hK hb0 hb1 hb2 f0 f1 f2 f3 f4 f5 f6
      go_simp
      go_at_call 49
      refine (abs_ok (HY.out.below hB.1) OY.out (tab_below HT.out hB.1)).mono ?_
      rintro en w4 ⟨v1, rfl, hr, hb⟩
      obtain ⟨hK, hB, hb0, hb1, hb2, f0, f1, f2, f3, f4, f5, f6, _⟩ := HALL.out
      have key := hK.out (v1) w4 (by rw [hGM]; exact ⟨hB.next hb, blk_below hb0 hb, blk_below hb1 hb, blk_below hb2 hb, (kv f0 (by decide)), fun _ => by rw [upd_eq]; exact hr.lower (Nat.le_trans (Nat.le_add_right _ _) hB.2), (kv f2 (by decide)), (kd f3 (by decide) hb), (kv f4 (by decide)), (kv f5 (by decide)), (kv f6 (by decide))⟩)
      clear hb0 hb1 hb2 f0 f1 f2 f3 f4 f5 f6 hK HALL
      simpa [upd, D0] using key
    case succ.succ.zero =>
      have cc0 := (box_cell (v := .bool c0) hb1 0 rfl).1
      have cc1 := (box_cell (v := .slice B m0 d) hb1 1 rfl).1
      have cc2 := (box_cell (v := .int .i64 y0) hb1 2 rfl).1
      have hb := Below.refl W.heap.size W
      have key := hK.out (.agg #[.bool c0, .slice B m0 d, .int .i64 y0]) W (by rw [hGM]; exact ⟨hB.next hb, blk_below hb0 hb, blk_below hb1 hb, blk_below hb2 hb, (kv f0 (by decide)), (kd f1 (by decide) hb), fun _ => by rw [upd_eq], (kd f3 (by decide) hb), (kv f4 (by decide)), (kv f5 (by decide)), (kv f6 (by decide))⟩)
      clear hb0 hb1 hb2 f0 f1 f2 f3 f4 f5 f6 hb hK
      go_simp
      simpa [upd] using key
    case succ.succ.succ.zero =>
      have d2 := f2 (haft { on := 2, ground := .data } (by simp) rfl)
      have D2 := d2
      have HALL := Aside0.mk (And.intro hK (And.intro hB (And.intro hb0 ( And.intro hb1 ( And.intro hb2 ( And.intro f0 ( And.intro f1 ( And.intro f2 ( And.intro f3 ( And.intro f4 ( And.intro f5 ( And.intro f6 (True.intro)))))))))))))
      clear hK hb0 hb1 hb2 f0 f1 f2 f3 f4 f5 f6
      go_simp
      go_at_call 49
      refine (abs_ok (HX.out.below hB.1) OX.out (tab_below HT.out hB.1)).mono ?_
      rintro en w4 ⟨v1, rfl, hr, hb⟩
      obtain ⟨hK, hB, hb0, hb1, hb2, f0, f1, f2, f3, f4, f5, f6, _⟩ := HALL.out
      have key := hK.out (v1) w4 (by rw [hGM]; exact ⟨hB.next hb, blk_below hb0 hb, blk_below hb1 hb, blk_below hb2 hb, (kv f0 (by decide)), (kd f1 (by decide) hb), (kv f2 (by decide)), fun _ => by rw [upd_eq]; exact hr.lower (Nat.le_trans (Nat.le_add_right _ _) hB.2), (kv f4 (by decide)), (kv f5 (by decide)), (kv f6 (by decide))⟩)
      clear hb0 hb1 hb2 f0 f1 f2 f3 f4 f5 f6 hK HALL
      simpa [upd, D2] using key
    case succ.succ.succ.succ.zero =>
      have d1 := f1 (haft { on := 1, ground := .data } (by simp) rfl)
      have D1 := d1
      have d3 := f3 (haft { on := 3, ground := .data } (by simp) rfl)
      have D3 := d3
      have HALL := Aside0.mk (And.intro hK (And.intro hB (And.intro hb0 ( And.intro hb1 ( And.intro hb2 ( And.intro f0 ( And.intro f1 ( And.intro f2 ( And.intro f3 ( And.intro f4 ( And.intro f5 ( And.intro f6 (True.intro)))))))))))))
      clear hK hb0 hb1 hb2 f0 f1 f2 f3 f4 f5 f6
      go_simp
      go_at_call 48
      refine (cmp_ok d1.c d3.c OAY.out OAX.out (tab_below HT.out hB.1)).mono ?_
      rintro en w4 ⟨rfl, hb⟩
      obtain ⟨hK, hB, hb0, hb1, hb2, f0, f1, f2, f3, f4, f5, f6, _⟩ := HALL.out
      have key := hK.out (.int .i64 (cmpZ (y.natAbs : Int) (x.natAbs : Int))) w4 (by rw [hGM]; exact ⟨hB.next hb, blk_below hb0 hb, blk_below hb1 hb, blk_below hb2 hb, (kv f0 (by decide)), (kd f1 (by decide) hb), (kv f2 (by decide)), (kd f3 (by decide) hb), fun _ => by rw [upd_eq], (kv f5 (by decide)), (kv f6 (by decide))⟩)
      clear hb0 hb1 hb2 f0 f1 f2 f3 f4 f5 f6 hK HALL
      simpa [upd] using key
    case succ.succ.succ.succ.succ.zero =>
      have d4 := f4 (haft { on := 4, ground := .data } (by simp) rfl)
      have D4 := d4
      have hce := HCE.out
      have hb := Below.refl W.heap.size W
      have key := hK.out (.bool true) W (by rw [hGM]; exact ⟨hB.next hb, blk_below hb0 hb, blk_below hb1 hb, blk_below hb2 hb, (kv f0 (by decide)), (kd f1 (by decide) hb), (kv f2 (by decide)), (kd f3 (by decide) hb), (kv f4 (by decide)), fun _ => by rw [upd_eq], (kv f6 (by decide))⟩)
      clear hb0 hb1 hb2 f0 f1 f2 f3 f4 f5 f6 hb hK
      go_simp
      simpa [upd, D4] using key
    case succ.succ.succ.succ.succ.succ.zero =>
      have d5 := f5 (haft { on := 5, ground := .data } (by simp) rfl)
      have D5 := d5
      have hb := Below.refl W.heap.size W
      have key := hK.out (.bool true) W (by rw [hGM]; exact ⟨hB.next hb, blk_below hb0 hb, blk_below hb1 hb, blk_below hb2 hb, (kv f0 (by decide)), (kd f1 (by decide) hb), (kv f2 (by decide)), (kd f3 (by decide) hb), (kv f4 (by decide)), (kv f5 (by decide)), fun _ => by rw [upd_eq]⟩)
      clear hb0 hb1 hb2 f0 f1 f2 f3 f4 f5 f6 hb hK
      go_simp
      simpa [upd, D5] using key
  case hendM =>
    intro v W L0 hall hGv
    rw [hGM] at hGv
    obtain ⟨hB, hb0, hb1, hb2, f0, f1, f2, f3, f4, f5, f6⟩ := hGv
    have d6 := f6 (hall 6 (by decide))
    replace BEL := Aside0.mk hB
    replace XY := Aside0.mk hb0
    replace XX := Aside0.mk hb1
    replace XR := Aside0.mk hb2
    clear hall hB hb0 hb1 hb2 f0 f1 f2 f3 f4 f5 f6
    simp only [setAll, List.setIfInBounds_toArray, List.set_cons_zero, List.set_cons_succ, Nat.reduceAdd, d6]
    clear d6
    go_wp2_with (((with_reducible refine gate_store (p := 6) rfl ?_); go_must (refine store_box 51 6 (.tmp 37) rfl rfl rfl (g := w.heap.size + 1 + 1) (e := 51) (.agg #[.bool false, .slice none 0 0, .int .i64 0, .bool false]) ([.bool false, .slice none 0 0, .int .i64 0, .bool false]) rfl rfl rfl info_told ?b1 XR.out rfl ?_; (case b1 => intro q hq; simp at hq; rcases hq with rfl | rfl | rfl | rfl <;> rfl); intro wb hbx hgx; have HX := Aside0.mk hbx; have HG := Aside0.mk hgx; clear hbx hgx)); replace BEL := Aside0.mk (BEL.out.grown HG.out (by omega)); replace XY := Aside0.mk (blk_grown XY.out HG.out (by omega)); replace XX := Aside0.mk (blk_grown XX.out HG.out (by omega)); replace XR := HX; clear HG)
    refine bodyPost_ret (results_told rfl _ _ (w.heap.size + 1 + 1) _ rfl XR.out rfl) rfl ?_
    exact ⟨_, rfl, PO.none _ _, BEL.out.1⟩

set_option maxRecDepth 100000 in
set_option maxHeartbeats 8000000 in
theorem ang_g {f : Nat} {u v : Value} {y x : Int} {w : World} (h : CDy w u y (-1074)) (h' : CDy w v x (-1074)) (hy : y.natAbs < 2 ^ 2098) (hx : x.natAbs < 2 ^ 2098) (e1 : ¬ y = 0) (e3 : ¬ x = 0) (e2 : ¬ f = 33) (e4 : (y.natAbs : Int) = x.natAbs) (e5 : 0 < x) (hT : TabAt 0 Lib.deBruijn64tab w) :
    Calls Tryd.prog 23 #[.int .u8 f, u, v] w fun en w' => ∃ v', en = .returned v' ∧ PO w' w.heap.size v' (some (sgnI y, 0 + -2)) ∧ Below w.heap.size w w' := by
  obtain ⟨b0, A, n0, c, x0, rfl⟩ := h.ex
  obtain ⟨c0, B, m0, d, y0, rfl⟩ := h'.ex
  have HT := Aside0.mk hT
  have HY := Aside0.mk h
  have HX := Aside0.mk h'
  have OY := Aside0.mk (ok_z hy)
  have OX := Aside0.mk (ok_z hx)
  have OAY := Aside0.mk (ok_z (z := (y.natAbs : Int)) (by rw [Int.natAbs_natCast]; exact hy))
  have OAX := Aside0.mk (ok_z (z := (x.natAbs : Int)) (by rw [Int.natAbs_natCast]; exact hx))
  have hd : decide (y = 0) = false := decide_eq_false e1
  have hdx : decide (x = 0) = false := decide_eq_false e3
  have hff : ((f : Int) == 33) = false := by simp; omega
  have HCE : Aside0 ((cmpZ (y.natAbs : Int) (x.natAbs : Int) != 0) = false) := ⟨by rw [cmpZ_ne]; simp; exact e4⟩
  have hs : decide (0 < sgnI x) = true := by rw [sgn_pos]; exact decide_eq_true e5
  clear h h' hy hx hT e1 e2 e3 e4 e5
  go_enter Tryd.func23, Tryd.ntmps23
  have BEL : Aside0 (BelN w 3 (((w.alloc (.cells #[.bool b0, .slice A n0 c, .int .i64 x0] 27)).alloc (.cells #[.bool c0, .slice B m0 d, .int .i64 y0] 27)).alloc (.cells #[.bool false, .slice none 0 0, .int .i64 0, .bool false] 51))) := ⟨((((BelN.zero w).alloc _).alloc _).alloc _).less (by decide)⟩
  have XY : Aside0 ((((w.alloc (.cells #[.bool b0, .slice A n0 c, .int .i64 x0] 27)).alloc (.cells #[.bool c0, .slice B m0 d, .int .i64 y0] 27)).alloc (.cells #[.bool false, .slice none 0 0, .int .i64 0, .bool false] 51)).heap[w.heap.size]? = some (.cells #[.bool b0, .slice A n0 c, .int .i64 x0] 27 (0, 0))) := ⟨by have h := blk_new w (.cells #[.bool b0, .slice A n0 c, .int .i64 x0] 27); exact blk_alloc (blk_alloc (h) _) _⟩
  have XX : Aside0 ((((w.alloc (.cells #[.bool b0, .slice A n0 c, .int .i64 x0] 27)).alloc (.cells #[.bool c0, .slice B m0 d, .int .i64 y0] 27)).alloc (.cells #[.bool false, .slice none 0 0, .int .i64 0, .bool false] 51)).heap[w.heap.size + 1]? = some (.cells #[.bool c0, .slice B m0 d, .int .i64 y0] 27 (0, 0))) := ⟨by have h := blk_new (w.alloc (.cells #[.bool b0, .slice A n0 c, .int .i64 x0] 27)) (.cells #[.bool c0, .slice B m0 d, .int .i64 y0] 27); rw [size_alloc'] at h; exact blk_alloc (h) _⟩
  have XR : Aside0 ((((w.alloc (.cells #[.bool b0, .slice A n0 c, .int .i64 x0] 27)).alloc (.cells #[.bool c0, .slice B m0 d, .int .i64 y0] 27)).alloc (.cells #[.bool false, .slice none 0 0, .int .i64 0, .bool false] 51)).heap[w.heap.size + 1 + 1]? = some (.cells #[.bool false, .slice none 0 0, .int .i64 0, .bool false] 51 (0, 0))) := ⟨by have h := blk_new ((w.alloc (.cells #[.bool b0, .slice A n0 c, .int .i64 x0] 27)).alloc (.cells #[.bool c0, .slice B m0 d, .int .i64 y0] 27)) (.cells #[.bool false, .slice none 0 0, .int .i64 0, .bool false] 51); rw [size_alloc', size_alloc'] at h; exact h⟩
  obtain ⟨q0, q0'⟩ := box_cell XY.out 0 rfl
  obtain ⟨q1, q1'⟩ := box_cell XY.out 1 rfl
  obtain ⟨q2, q2'⟩ := box_cell XY.out 2 rfl
  go_wp2_with fail
  clear q0 q0' q1 q1' q2 q2'
  go_at_call 22
  refine (zero_ok (HY.out.below BEL.out.1) OY.out).mono ?_
  rintro en1 w1 ⟨rfl, hb⟩
  replace BEL := Aside0.mk (BEL.out.next hb)
  replace XY := Aside0.mk (blk_below XY.out hb)
  replace XX := Aside0.mk (blk_below XX.out hb)
  replace XR := Aside0.mk (blk_below XR.out hb)
  clear hb
  obtain ⟨q3, q3'⟩ := box_cell XY.out 0 rfl
  obtain ⟨q4, q4'⟩ := box_cell XY.out 1 rfl
  obtain ⟨q5, q5'⟩ := box_cell XY.out 2 rfl
  go_wp2_with fail
  clear q3 q3' q4 q4' q5 q5'
  go_at_call 45
  refine (sign_ok (HY.out.below BEL.out.1) OY.out).mono ?_
  rintro en2 w2 ⟨rfl, hb⟩
  replace BEL := Aside0.mk (BEL.out.next hb)
  replace XY := Aside0.mk (blk_below XY.out hb)
  replace XX := Aside0.mk (blk_below XX.out hb)
  replace XR := Aside0.mk (blk_below XR.out hb)
  clear hb
  obtain ⟨q6, q6'⟩ := box_cell XY.out 0 rfl
  obtain ⟨q7, q7'⟩ := box_cell XY.out 1 rfl
  obtain ⟨q8, q8'⟩ := box_cell XY.out 2 rfl
  go_wp2_with fail
  clear q6 q6' q7 q7' q8 q8'
  go_at_call 22
  refine (zero_ok (HY.out.below BEL.out.1) OY.out).mono ?_
  rintro en3 w3 ⟨rfl, hb⟩
  replace BEL := Aside0.mk (BEL.out.next hb)
  replace XY := Aside0.mk (blk_below XY.out hb)
  replace XX := Aside0.mk (blk_below XX.out hb)
  replace XR := Aside0.mk (blk_below XR.out hb)
  clear hb
  obtain ⟨q9, q9'⟩ := box_cell XX.out 0 rfl
  obtain ⟨q10, q10'⟩ := box_cell XX.out 1 rfl
  obtain ⟨q11, q11'⟩ := box_cell XX.out 2 rfl
  go_wp2_with fail
  clear q9 q9' q10 q10' q11 q11'
  go_at_call 22
  refine (zero_ok (HX.out.below BEL.out.1) OX.out).mono ?_
  rintro en4 w4 ⟨rfl, hb⟩
  replace BEL := Aside0.mk (BEL.out.next hb)
  replace XY := Aside0.mk (blk_below XY.out hb)
  replace XX := Aside0.mk (blk_below XX.out hb)
  replace XR := Aside0.mk (blk_below XR.out hb)
  clear hb
  go_upto_region 10 with fail
  obtain ⟨GM, hGM⟩ : ∃ G : (Nat → Prop) → (Nat → Value) → World → Prop, G = fun L v W => BelN w 3 W ∧ W.heap[w.heap.size]? = some (.cells #[.bool b0, .slice A n0 c, .int .i64 x0] 27 (0, 0)) ∧ W.heap[w.heap.size + 1]? = some (.cells #[.bool c0, .slice B m0 d, .int .i64 y0] 27 (0, 0)) ∧ W.heap[w.heap.size + 1 + 1]? = some (.cells #[.bool false, .slice none 0 0, .int .i64 0, .bool false] 51 (0, 0)) ∧ (L 0 → (v 0) = .agg #[.bool b0, .slice A n0 c, .int .i64 x0]) ∧ (L 1 → PDy W w.heap.size (v 1) (y.natAbs : Int) (-1074)) ∧ (L 2 → (v 2) = .agg #[.bool c0, .slice B m0 d, .int .i64 y0]) ∧ (L 3 → PDy W w.heap.size (v 3) (x.natAbs : Int) (-1074)) ∧ (L 4 → (v 4) = .int .i64 (cmpZ (y.natAbs : Int) (x.natAbs : Int))) ∧ (L 5 → (v 5) = .bool false) ∧ (L 6 → (v 6) = .bool false) := ⟨_, rfl⟩
  refine wp_region_slotsV [31, 32, 33, 34, 35, 36, 30] (by kernel_rfl) (by kernel_rfl) (G := GM) ?h0M ?hstepM ?hendM
  case h0M =>
    intro v; rw [hGM]
    exact ⟨BEL.out.next (below_drew (Below.refl _ _)), blk_drew XY.out, blk_drew XX.out, blk_drew XR.out, fun h => h.elim, fun h => h.elim, fun h => h.elim, fun h => h.elim, fun h => h.elim, fun h => h.elim, fun h => h.elim⟩
  case hstepM =>
    intro k o ho v W L hGv hnk haft hcl K hK
    rw [hGM] at hGv
    obtain ⟨hB, hb0, hb1, hb2, f0, f1, f2, f3, f4, f5, f6⟩ := hGv
    rcases k with _ | _ | _ | _ | _ | _ | _ | k
    all_goals first
      | (cases ho; done)
      | (obtain rfl := (Option.some.inj ho).symm
         clear ho
         rw [if_pos (by rfl)]
         simp only [setAll, List.setIfInBounds_toArray, List.set_cons_zero, List.set_cons_succ, List.set_nil, List.getElem_toArray, List.getElem_cons_zero, List.getElem_cons_succ, Nat.reduceAdd] at haft hK ⊢)
    case zero =>
      have cc0 := (box_cell (v := .bool b0) hb0 0 rfl).1
      have cc1 := (box_cell (v := .slice A n0 c) hb0 1 rfl).1
      have cc2 := (box_cell (v := .int .i64 x0) hb0 2 rfl).1
      have hb := Below.refl W.heap.size W
      have key := hK.out (.agg #[.bool b0, .slice A n0 c, .int .i64 x0]) W (by rw [hGM]; exact ⟨hB.next hb, blk_below hb0 hb, blk_below hb1 hb, blk_below hb2 hb, fun _ => by rw [upd_eq], (kd f1 (by decide) hb), (kv f2 (by decide)), (kd f3 (by decide) hb), (kv f4 (by decide)), (kv f5 (by decide)), (kv f6 (by decide))⟩)
      clear hb0 hb1 hb2 f0 f1 f2 f3 f4 f5 f6 hb hK
      go_simp
      simpa [upd] using key
    case succ.zero =>
      have d0 := f0 (haft { on := 0, ground := .data } (by simp) rfl)
      have D0 := d0
      have HALL := Aside0.mk (And.intro hK (And.intro hB (And.intro hb0 ( And.intro hb1 ( And.intro hb2 ( And.intro f0 ( And.intro f1 ( And.intro f2 ( And.intro f3 ( And.intro f4 ( And.intro f5 ( And.intro f6 (True.intro)))))))))))))
      clear hK hb0 hb1 hb2 f0 f1 f2 f3 f4 f5 f6
      go_simp
      go_at_call 49
      refine (abs_ok (HY.out.below hB.1) OY.out (tab_below HT.out hB.1)).mono ?_
      rintro en w4 ⟨v1, rfl, hr, hb⟩
      obtain ⟨hK, hB, hb0, hb1, hb2, f0, f1, f2, f3, f4, f5, f6, _⟩ := HALL.out
      have key := hK.out (v1) w4 (by rw [hGM]; exact ⟨hB.next hb, blk_below hb0 hb, blk_below hb1 hb, blk_below hb2 hb, (kv f0 (by decide)), fun _ => by rw [upd_eq]; exact hr.lower (Nat.le_trans (Nat.le_add_right _ _) hB.2), (kv f2 (by decide)), (kd f3 (by decide) hb), (kv f4 (by decide)), (kv f5 (by decide)), (kv f6 (by decide))⟩)
      clear hb0 hb1 hb2 f0 f1 f2 f3 f4 f5 f6 hK HALL
      simpa [upd, D0] using key
    case succ.succ.zero =>
      have cc0 := (box_cell (v := .bool c0) hb1 0 rfl).1
      have cc1 := (box_cell (v := .slice B m0 d) hb1 1 rfl).1
      have cc2 := (box_cell (v := .int .i64 y0) hb1 2 rfl).1
      have hb := Below.refl W.heap.size W
      have key := hK.out (.agg #[.bool c0, .slice B m0 d, .int .i64 y0]) W (by rw [hGM]; exact ⟨hB.next hb, blk_below hb0 hb, blk_below hb1 hb, blk_below hb2 hb, (kv f0 (by decide)), (kd f1 (by decide) hb), fun _ => by rw [upd_eq], (kd f3 (by decide) hb), (kv f4 (by decide)), (kv f5 (by decide)), (kv f6 (by decide))⟩)
      clear hb0 hb1 hb2 f0 f1 f2 f3 f4 f5 f6 hb hK
      go_simp
      simpa [upd] using key
    case succ.succ.succ.zero =>
      have d2 := f2 (haft { on := 2, ground := .data } (by simp) rfl)
      have D2 := d2
      have HALL := Aside0.mk (And.intro hK (And.intro hB (And.intro hb0 ( And.intro hb1 ( And.intro hb2 ( And.intro f0 ( And.intro f1 ( And.intro f2 ( And.intro f3 ( And.intro f4 ( And.intro f5 ( And.intro f6 (True.intro)))))))))))))
      clear hK hb0 hb1 hb2 f0 f1 f2 f3 f4 f5 f6
      go_simp
      go_at_call 49
      refine (abs_ok (HX.out.below hB.1) OX.out (tab_below HT.out hB.1)).mono ?_
      rintro en w4 ⟨v1, rfl, hr, hb⟩
      obtain ⟨hK, hB, hb0, hb1, hb2, f0, f1, f2, f3, f4, f5, f6, _⟩ := HALL.out
      have key := hK.out (v1) w4 (by rw [hGM]; exact ⟨hB.next hb, blk_below hb0 hb, blk_below hb1 hb, blk_below hb2 hb, (kv f0 (by decide)), (kd f1 (by decide) hb), (kv f2 (by decide)), fun _ => by rw [upd_eq]; exact hr.lower (Nat.le_trans (Nat.le_add_right _ _) hB.2), (kv f4 (by decide)), (kv f5 (by decide)), (kv f6 (by decide))⟩)
      clear hb0 hb1 hb2 f0 f1 f2 f3 f4 f5 f6 hK HALL
      simpa [upd, D2] using key
    case succ.succ.succ.succ.zero =>
      have d1 := f1 (haft { on := 1, ground := .data } (by simp) rfl)
      have D1 := d1
      have d3 := f3 (haft { on := 3, ground := .data } (by simp) rfl)
      have D3 := d3
      have HALL := Aside0.mk (And.intro hK (And.intro hB (And.intro hb0 ( And.intro hb1 ( And.intro hb2 ( And.intro f0 ( And.intro f1 ( And.intro f2 ( And.intro f3 ( And.intro f4 ( And.intro f5 ( And.intro f6 (True.intro)))))))))))))
      clear hK hb0 hb1 hb2 f0 f1 f2 f3 f4 f5 f6
      go_simp
      go_at_call 48
      refine (cmp_ok d1.c d3.c OAY.out OAX.out (tab_below HT.out hB.1)).mono ?_
      rintro en w4 ⟨rfl, hb⟩
      obtain ⟨hK, hB, hb0, hb1, hb2, f0, f1, f2, f3, f4, f5, f6, _⟩ := HALL.out
      have key := hK.out (.int .i64 (cmpZ (y.natAbs : Int) (x.natAbs : Int))) w4 (by rw [hGM]; exact ⟨hB.next hb, blk_below hb0 hb, blk_below hb1 hb, blk_below hb2 hb, (kv f0 (by decide)), (kd f1 (by decide) hb), (kv f2 (by decide)), (kd f3 (by decide) hb), fun _ => by rw [upd_eq], (kv f5 (by decide)), (kv f6 (by decide))⟩)
      clear hb0 hb1 hb2 f0 f1 f2 f3 f4 f5 f6 hK HALL
      simpa [upd] using key
    case succ.succ.succ.succ.succ.zero =>
      have d4 := f4 (haft { on := 4, ground := .data } (by simp) rfl)
      have D4 := d4
      have hce := HCE.out
      have hb := Below.refl W.heap.size W
      have key := hK.out (.bool false) W (by rw [hGM]; exact ⟨hB.next hb, blk_below hb0 hb, blk_below hb1 hb, blk_below hb2 hb, (kv f0 (by decide)), (kd f1 (by decide) hb), (kv f2 (by decide)), (kd f3 (by decide) hb), (kv f4 (by decide)), fun _ => by rw [upd_eq], (kv f6 (by decide))⟩)
      clear hb0 hb1 hb2 f0 f1 f2 f3 f4 f5 f6 hb hK
      go_simp
      simpa [upd, D4] using key
    case succ.succ.succ.succ.succ.succ.zero =>
      have d5 := f5 (haft { on := 5, ground := .data } (by simp) rfl)
      have D5 := d5
      have hb := Below.refl W.heap.size W
      have key := hK.out (.bool false) W (by rw [hGM]; exact ⟨hB.next hb, blk_below hb0 hb, blk_below hb1 hb, blk_below hb2 hb, (kv f0 (by decide)), (kd f1 (by decide) hb), (kv f2 (by decide)), (kd f3 (by decide) hb), (kv f4 (by decide)), (kv f5 (by decide)), fun _ => by rw [upd_eq]⟩)
      clear hb0 hb1 hb2 f0 f1 f2 f3 f4 f5 f6 hb hK
      go_simp
      simpa [upd, D5] using key
  case hendM =>
    intro v W L0 hall hGv
    rw [hGM] at hGv
    obtain ⟨hB, hb0, hb1, hb2, f0, f1, f2, f3, f4, f5, f6⟩ := hGv
    have d6 := f6 (hall 6 (by decide))
    replace BEL := Aside0.mk hB
    replace XY := Aside0.mk hb0
    replace XX := Aside0.mk hb1
    replace XR := Aside0.mk hb2
    clear hall hB hb0 hb1 hb2 f0 f1 f2 f3 f4 f5 f6
    simp only [setAll, List.setIfInBounds_toArray, List.set_cons_zero, List.set_cons_succ, Nat.reduceAdd, d6]
    clear d6
    obtain ⟨q12, q12'⟩ := box_cell XX.out 0 rfl
    obtain ⟨q13, q13'⟩ := box_cell XX.out 1 rfl
    obtain ⟨q14, q14'⟩ := box_cell XX.out 2 rfl
    go_wp2_with fail
    clear q12 q12' q13 q13' q14 q14'
    go_at_call 45
    refine (sign_ok (HX.out.below BEL.out.1) OX.out).mono ?_
    rintro en21 w21 ⟨rfl, hb⟩
    replace BEL := Aside0.mk (BEL.out.next hb)
    replace XY := Aside0.mk (blk_below XY.out hb)
    replace XX := Aside0.mk (blk_below XX.out hb)
    replace XR := Aside0.mk (blk_below XR.out hb)
    clear hb
    go_wp2_with fail
    have BLW := BEL
    go_at_call 47
    refine (part_any (sgnI y) 2 _ (sgnI_small y) (by decide) (by decide) (tab_below HT.out BEL.out.1)).mono ?_
    rintro en22 w22 ⟨v22, rfl, hr, hb⟩
    replace BEL := Aside0.mk (BEL.out.next hb)
    replace XY := Aside0.mk (blk_below XY.out hb)
    replace XX := Aside0.mk (blk_below XX.out hb)
    replace XR := Aside0.mk (blk_below XR.out hb)
    have P1 := Aside0.mk hr
    obtain ⟨b22, A22, n22, c22, x22, rfl⟩ := hr.ex5
    clear hr hb
    go_wp2_with (((with_reducible refine gate_store (p := 6) rfl ?_); go_must (refine store_box 51 6 (.tmp 43) rfl rfl rfl (g := w.heap.size + 1 + 1) (e := 51) (.agg #[.bool b22, .slice A22 n22 c22, .int .i64 x22, .bool true]) ([.bool b22, .slice A22 n22 c22, .int .i64 x22, .bool true]) rfl rfl rfl info_told ?b1 XR.out rfl ?_; (case b1 => intro q hq; simp at hq; rcases hq with rfl | rfl | rfl | rfl <;> rfl); intro wb hbx hgx; have HX := Aside0.mk hbx; have HG := Aside0.mk hgx; clear hbx hgx)); replace P1 := Aside0.mk (P1.out.grown_box XR.out (by decide) HG.out); replace BEL := Aside0.mk (BEL.out.grown HG.out (by omega)); replace XY := Aside0.mk (blk_grown XY.out HG.out (by omega)); replace XX := Aside0.mk (blk_grown XX.out HG.out (by omega)); replace XR := HX; clear HG)
    refine bodyPost_ret (results_told rfl _ _ (w.heap.size + 1 + 1) _ rfl XR.out rfl) rfl ?_
    exact ⟨_, rfl, P1.out.some.lower (Nat.le_trans (Nat.le_add_right _ _) BLW.out.2), BEL.out.1⟩

set_option maxRecDepth 100000 in
set_option maxHeartbeats 8000000 in
theorem ang_h {f : Nat} {u v : Value} {y x : Int} {w : World} (h : CDy w u y (-1074)) (h' : CDy w v x (-1074)) (hy : y.natAbs < 2 ^ 2098) (hx : x.natAbs < 2 ^ 2098) (e1 : ¬ y = 0) (e3 : ¬ x = 0) (e2 : ¬ f = 33) (e4 : (y.natAbs : Int) = x.natAbs) (e5 : ¬ 0 < x) (hT : TabAt 0 Lib.deBruijn64tab w) :
    Calls Tryd.prog 23 #[.int .u8 f, u, v] w fun en w' => ∃ v', en = .returned v' ∧ PO w' w.heap.size v' (some (3 * sgnI y, 0 + -2)) ∧ Below w.heap.size w w' := by
  obtain ⟨b0, A, n0, c, x0, rfl⟩ := h.ex
  obtain ⟨c0, B, m0, d, y0, rfl⟩ := h'.ex
  have HT := Aside0.mk hT
  have HY := Aside0.mk h
  have HX := Aside0.mk h'
  have OY := Aside0.mk (ok_z hy)
  have OX := Aside0.mk (ok_z hx)
  have OAY := Aside0.mk (ok_z (z := (y.natAbs : Int)) (by rw [Int.natAbs_natCast]; exact hy))
  have OAX := Aside0.mk (ok_z (z := (x.natAbs : Int)) (by rw [Int.natAbs_natCast]; exact hx))
  have hd : decide (y = 0) = false := decide_eq_false e1
  have hdx : decide (x = 0) = false := decide_eq_false e3
  have hff : ((f : Int) == 33) = false := by simp; omega
  have HCE : Aside0 ((cmpZ (y.natAbs : Int) (x.natAbs : Int) != 0) = false) := ⟨by rw [cmpZ_ne]; simp; exact e4⟩
  have hs : decide (0 < sgnI x) = false := by rw [sgn_pos]; exact decide_eq_false e5
  have h3 := sgnI_wrap3 y
  clear h h' hy hx hT e1 e2 e3 e4 e5
  go_enter Tryd.func23, Tryd.ntmps23
  have BEL : Aside0 (BelN w 3 (((w.alloc (.cells #[.bool b0, .slice A n0 c, .int .i64 x0] 27)).alloc (.cells #[.bool c0, .slice B m0 d, .int .i64 y0] 27)).alloc (.cells #[.bool false, .slice none 0 0, .int .i64 0, .bool false] 51))) := ⟨((((BelN.zero w).alloc _).alloc _).alloc _).less (by decide)⟩
  have XY : Aside0 ((((w.alloc (.cells #[.bool b0, .slice A n0 c, .int .i64 x0] 27)).alloc (.cells #[.bool c0, .slice B m0 d, .int .i64 y0] 27)).alloc (.cells #[.bool false, .slice none 0 0, .int .i64 0, .bool false] 51)).heap[w.heap.size]? = some (.cells #[.bool b0, .slice A n0 c, .int .i64 x0] 27 (0, 0))) := ⟨by have h := blk_new w (.cells #[.bool b0, .slice A n0 c, .int .i64 x0] 27); exact blk_alloc (blk_alloc (h) _) _⟩
  have XX : Aside0 ((((w.alloc (.cells #[.bool b0, .slice A n0 c, .int .i64 x0] 27)).alloc (.cells #[.bool c0, .slice B m0 d, .int .i64 y0] 27)).alloc (.cells #[.bool false, .slice none 0 0, .int .i64 0, .bool false] 51)).heap[w.heap.size + 1]? = some (.cells #[.bool c0, .slice B m0 d, .int .i64 y0] 27 (0, 0))) := ⟨by have h := blk_new (w.alloc (.cells #[.bool b0, .slice A n0 c, .int .i64 x0] 27)) (.cells #[.bool c0, .slice B m0 d, .int .i64 y0] 27); rw [size_alloc'] at h; exact blk_alloc (h) _⟩
  have XR : Aside0 ((((w.alloc (.cells #[.bool b0, .slice A n0 c, .int .i64 x0] 27)).alloc (.cells #[.bool c0, .slice B m0 d, .int .i64 y0] 27)).alloc (.cells #[.bool false, .slice none 0 0, .int .i64 0, .bool false] 51)).heap[w.heap.size + 1 + 1]? = some (.cells #[.bool false, .slice none 0 0, .int .i64 0, .bool false] 51 (0, 0))) := ⟨by have h := blk_new ((w.alloc (.cells #[.bool b0, .slice A n0 c, .int .i64 x0] 27)).alloc (.cells #[.bool c0, .slice B m0 d, .int .i64 y0] 27)) (.cells #[.bool false, .slice none 0 0, .int .i64 0, .bool false] 51); rw [size_alloc', size_alloc'] at h; exact h⟩
  obtain ⟨q0, q0'⟩ := box_cell XY.out 0 rfl
  obtain ⟨q1, q1'⟩ := box_cell XY.out 1 rfl
  obtain ⟨q2, q2'⟩ := box_cell XY.out 2 rfl
  go_wp2_with fail
  clear q0 q0' q1 q1' q2 q2'
  go_at_call 22
  refine (zero_ok (HY.out.below BEL.out.1) OY.out).mono ?_
  rintro en1 w1 ⟨rfl, hb⟩
  replace BEL := Aside0.mk (BEL.out.next hb)
  replace XY := Aside0.mk (blk_below XY.out hb)
  replace XX := Aside0.mk (blk_below XX.out hb)
  replace XR := Aside0.mk (blk_below XR.out hb)
  clear hb
  obtain ⟨q3, q3'⟩ := box_cell XY.out 0 rfl
  obtain ⟨q4, q4'⟩ := box_cell XY.out 1 rfl
  obtain ⟨q5, q5'⟩ := box_cell XY.out 2 rfl
  go_wp2_with fail
  clear q3 q3' q4 q4' q5 q5'
  go_at_call 45
  refine (sign_ok (HY.out.below BEL.out.1) OY.out).mono ?_
  rintro en2 w2 ⟨rfl, hb⟩
  replace BEL := Aside0.mk (BEL.out.next hb)
  replace XY := Aside0.mk (blk_below XY.out hb)
  replace XX := Aside0.mk (blk_below XX.out hb)
  replace XR := Aside0.mk (blk_below XR.out hb)
  clear hb
  obtain ⟨q6, q6'⟩ := box_cell XY.out 0 rfl
  obtain ⟨q7, q7'⟩ := box_cell XY.out 1 rfl
  obtain ⟨q8, q8'⟩ := box_cell XY.out 2 rfl
  go_wp2_with fail
  clear q6 q6' q7 q7' q8 q8'
  go_at_call 22
  refine (zero_ok (HY.out.below BEL.out.1) OY.out).mono ?_
  rintro en3 w3 ⟨rfl, hb⟩
  replace BEL := Aside0.mk (BEL.out.next hb)
  replace XY := Aside0.mk (blk_below XY.out hb)
  replace XX := Aside0.mk (blk_below XX.out hb)
  replace XR := Aside0.mk (blk_below XR.out hb)
  clear hb
  obtain ⟨q9, q9'⟩ := box_cell XX.out 0 rfl
  obtain ⟨q10, q10'⟩ := box_cell XX.out 1 rfl
  obtain ⟨q11, q11'⟩ := box_cell XX.out 2 rfl
  go_wp2_with fail
  clear q9 q9' q10 q10' q11 q11'
  go_at_call 22
  refine (zero_ok (HX.out.below BEL.out.1) OX.out).mono ?_
  rintro en4 w4 ⟨rfl, hb⟩
  replace BEL := Aside0.mk (BEL.out.next hb)
  replace XY := Aside0.mk (blk_below XY.out hb)
  replace XX := Aside0.mk (blk_below XX.out hb)
  replace XR := Aside0.mk (blk_below XR.out hb)
  clear hb
  go_upto_region 10 with fail
  obtain ⟨GM, hGM⟩ : ∃ G : (Nat → Prop) → (Nat → Value) → World → Prop, G = fun L v W => BelN w 3 W ∧ W.heap[w.heap.size]? = some (.cells #[.bool b0, .slice A n0 c, .int .i64 x0] 27 (0, 0)) ∧ W.heap[w.heap.size + 1]? = some (.cells #[.bool c0, .slice B m0 d, .int .i64 y0] 27 (0, 0)) ∧ W.heap[w.heap.size + 1 + 1]? = some (.cells #[.bool false, .slice none 0 0, .int .i64 0, .bool false] 51 (0, 0)) ∧ (L 0 → (v 0) = .agg #[.bool b0, .slice A n0 c, .int .i64 x0]) ∧ (L 1 → PDy W w.heap.size (v 1) (y.natAbs : Int) (-1074)) ∧ (L 2 → (v 2) = .agg #[.bool c0, .slice B m0 d, .int .i64 y0]) ∧ (L 3 → PDy W w.heap.size (v 3) (x.natAbs : Int) (-1074)) ∧ (L 4 → (v 4) = .int .i64 (cmpZ (y.natAbs : Int) (x.natAbs : Int))) ∧ (L 5 → (v 5) = .bool false) ∧ (L 6 → (v 6) = .bool false) := ⟨_, rfl⟩
  refine wp_region_slotsV [31, 32, 33, 34, 35, 36, 30] (by kernel_rfl) (by kernel_rfl) (G := GM) ?h0M ?hstepM ?hendM
  case h0M =>
    intro v; rw [hGM]
    exact ⟨BEL.out.next (below_drew (Below.refl _ _)), blk_drew XY.out, blk_drew XX.out, blk_drew XR.out, fun h => h.elim, fun h => h.elim, fun h => h.elim, fun h => h.elim, fun h => h.elim, fun h => h.elim, fun h => h.elim⟩
  case hstepM =>
    intro k o ho v W L hGv hnk haft hcl K hK
    rw [hGM] at hGv
    obtain ⟨hB, hb0, hb1, hb2, f0, f1, f2, f3, f4, f5, f6⟩ := hGv
    rcases k with _ | _ | _ | _ | _ | _ | _ | k
    all_goals first
      | (cases ho; done)
      | (obtain rfl := (Option.some.inj ho).symm
         clear ho
         rw [if_pos (by rfl)]
         simp only [setAll, List.setIfInBounds_toArray, List.set_cons_zero, List.set_cons_succ, List.set_nil, List.getElem_toArray, List.getElem_cons_zero, List.getElem_cons_succ, Nat.reduceAdd] at haft hK ⊢)
    case zero =>
      have cc0 := (box_cell (v := .bool b0) hb0 0 rfl).1
      have cc1 := (box_cell (v := .slice A n0 c) hb0 1 rfl).1
      have cc2 := (box_cell (v := .int .i64 x0) hb0 2 rfl).1
      have hb := Below.refl W.heap.size W
      have key := hK.out (.agg #[.bool b0, .slice A n0 c, .int .i64 x0]) W (by rw [hGM]; exact ⟨hB.next hb, blk_below hb0 hb, blk_below hb1 hb, blk_below hb2 hb, fun _ => by rw [upd_eq], (kd f1 (by decide) hb), (kv f2 (by decide)), (kd f3 (by decide) hb), (kv f4 (by decide)), (kv f5 (by decide)), (kv f6 (by decide))⟩)
      clear hb0 hb1 hb2 f0 f1 f2 f3 f4 f5 f6 hb hK
      go_simp
      simpa [upd] using key
    case succ.zero =>
      have d0 := f0 (haft { on := 0, ground := .data } (by simp) rfl)
      have D0 := d0
      have HALL := Aside0.mk (And.intro hK (And.intro hB (And.intro hb0 ( And.intro hb1 ( And.intro hb2 ( And.intro f0 ( And.intro f1 ( And.intro f2 ( And.intro f3 ( And.intro f4 ( And.intro f5 ( And.intro f6 (True.intro)))))))))))))
      clear hK hb0 hb1 hb2 f0 f1 f2 f3 f4 f5 f6
      go_simp
      go_at_call 49
      refine (abs_ok (HY.out.below hB.1) OY.out (tab_below HT.out hB.1)).mono ?_
      rintro en w4 ⟨v1, rfl, hr, hb⟩
      obtain ⟨hK, hB, hb0, hb1, hb2, f0, f1, f2, f3, f4, f5, f6, _⟩ := HALL.out
      have key := hK.out (v1) w4 (by rw [hGM]; exact ⟨hB.next hb, blk_below hb0 hb, blk_below hb1 hb, blk_below hb2 hb, (kv f0 (by decide)), fun _ => by rw [upd_eq]; exact hr.lower (Nat.le_trans (Nat.le_add_right _ _) hB.2), (kv f2 (by decide)), (kd f3 (by decide) hb), (kv f4 (by decide)), (kv f5 (by decide)), (kv f6 (by decide))⟩)
      clear hb0 hb1 hb2 f0 f1 f2 f3 f4 f5 f6 hK HALL
      simpa [upd, D0] using key
    case succ.succ.zero =>
      have cc0 := (box_cell (v := .bool c0) hb1 0 rfl).1
      have cc1 := (box_cell (v := .slice B m0 d) hb1 1 rfl).1
      have cc2 := (box_cell (v := .int .i64 y0) hb1 2 rfl).1
      have hb := Below.refl W.heap.size W
      have key := hK.out (.agg #[.bool c0, .slice B m0 d, .int .i64 y0]) W (by rw [hGM]; exact ⟨hB.next hb, blk_below hb0 hb, blk_below hb1 hb, blk_below hb2 hb, (kv f0 (by decide)), (kd f1 (by decide) hb), fun _ => by rw [upd_eq], (kd f3 (by decide) hb), (kv f4 (by decide)), (kv f5 (by decide)), (kv f6 (by decide))⟩)
      clear hb0 hb1 hb2 f0 f1 f2 f3 f4 f5 f6 hb hK
      go_simp
      simpa [upd] using key
    case succ.succ.succ.zero =>
      have d2 := f2 (haft { on := 2, ground := .data } (by simp) rfl)
      have D2 := d2
      have HALL := Aside0.mk (And.intro hK (And.intro hB (And.intro hb0 ( And.intro hb1 ( And.intro hb2 ( And.intro f0 ( And.intro f1 ( And.intro f2 ( And.intro f3 ( And.intro f4 ( And.intro f5 ( And.intro f6 (True.intro)))))))))))))
      clear hK hb0 hb1 hb2 f0 f1 f2 f3 f4 f5 f6
      go_simp
      go_at_call 49
      refine (abs_ok (HX.out.below hB.1) OX.out (tab_below HT.out hB.1)).mono ?_
      rintro en w4 ⟨v1, rfl, hr, hb⟩
      obtain ⟨hK, hB, hb0, hb1, hb2, f0, f1, f2, f3, f4, f5, f6, _⟩ := HALL.out
      have key := hK.out (v1) w4 (by rw [hGM]; exact ⟨hB.next hb, blk_below hb0 hb, blk_below hb1 hb, blk_below hb2 hb, (kv f0 (by decide)), (kd f1 (by decide) hb), (kv f2 (by decide)), fun _ => by rw [upd_eq]; exact hr.lower (Nat.le_trans (Nat.le_add_right _ _) hB.2), (kv f4 (by decide)), (kv f5 (by decide)), (kv f6 (by decide))⟩)
      clear hb0 hb1 hb2 f0 f1 f2 f3 f4 f5 f6 hK HALL
      simpa [upd, D2] using key
    case succ.succ.succ.succ.zero =>
      have d1 := f1 (haft { on := 1, ground := .data } (by simp) rfl)
      have D1 := d1
      have d3 := f3 (haft { on := 3, ground := .data } (by simp) rfl)
      have D3 := d3
      have HALL := Aside0.mk (And.intro hK (And.intro hB (And.intro hb0 ( And.intro hb1 ( And.intro hb2 ( And.intro f0 ( And.intro f1 ( And.intro f2 ( And.intro f3 ( And.intro f4 ( And.intro f5 ( And.intro f6 (True.intro)))))))))))))
      clear hK hb0 hb1 hb2 f0 f1 f2 f3 f4 f5 f6
      go_simp
      go_at_call 48
      refine (cmp_ok d1.c d3.c OAY.out OAX.out (tab_below HT.out hB.1)).mono ?_
      rintro en w4 ⟨rfl, hb⟩
      obtain ⟨hK, hB, hb0, hb1, hb2, f0, f1, f2, f3, f4, f5, f6, _⟩ := HALL.out
      have key := hK.out (.int .i64 (cmpZ (y.natAbs : Int) (x.natAbs : Int))) w4 (by rw [hGM]; exact ⟨hB.next hb, blk_below hb0 hb, blk_below hb1 hb, blk_below hb2 hb, (kv f0 (by decide)), (kd f1 (by decide) hb), (kv f2 (by decide)), (kd f3 (by decide) hb), fun _ => by rw [upd_eq], (kv f5 (by decide)), (kv f6 (by decide))⟩)
      clear hb0 hb1 hb2 f0 f1 f2 f3 f4 f5 f6 hK HALL
      simpa [upd] using key
    case succ.succ.succ.succ.succ.zero =>
      have d4 := f4 (haft { on := 4, ground := .data } (by simp) rfl)
      have D4 := d4
      have hce := HCE.out
      have hb := Below.refl W.heap.size W
      have key := hK.out (.bool false) W (by rw [hGM]; exact ⟨hB.next hb, blk_below hb0 hb, blk_below hb1 hb, blk_below hb2 hb, (kv f0 (by decide)), (kd f1 (by decide) hb), (kv f2 (by decide)), (kd f3 (by decide) hb), (kv f4 (by decide)), fun _ => by rw [upd_eq], (kv f6 (by decide))⟩)
      clear hb0 hb1 hb2 f0 f1 f2 f3 f4 f5 f6 hb hK
      go_simp
      simpa [upd, D4] using key
    case succ.succ.succ.succ.succ.succ.zero =>
      have d5 := f5 (haft { on := 5, ground := .data } (by simp) rfl)
      have D5 := d5
      have hb := Below.refl W.heap.size W
      have key := hK.out (.bool false) W (by rw [hGM]; exact ⟨hB.next hb, blk_below hb0 hb, blk_below hb1 hb, blk_below hb2 hb, (kv f0 (by decide)), (kd f1 (by decide) hb), (kv f2 (by decide)), (kd f3 (by decide) hb), (kv f4 (by decide)), (kv f5 (by decide)), fun _ => by rw [upd_eq]⟩)
      clear hb0 hb1 hb2 f0 f1 f2 f3 f4 f5 f6 hb hK
      go_simp
      simpa [upd, D5] using key
  case hendM =>
    intro v W L0 hall hGv
    rw [hGM] at hGv
    obtain ⟨hB, hb0, hb1, hb2, f0, f1, f2, f3, f4, f5, f6⟩ := hGv
    have d6 := f6 (hall 6 (by decide))
    replace BEL := Aside0.mk hB
    replace XY := Aside0.mk hb0
    replace XX := Aside0.mk hb1
    replace XR := Aside0.mk hb2
    clear hall hB hb0 hb1 hb2 f0 f1 f2 f3 f4 f5 f6
    simp only [setAll, List.setIfInBounds_toArray, List.set_cons_zero, List.set_cons_succ, Nat.reduceAdd, d6]
    clear d6
    obtain ⟨q12, q12'⟩ := box_cell XX.out 0 rfl
    obtain ⟨q13, q13'⟩ := box_cell XX.out 1 rfl
    obtain ⟨q14, q14'⟩ := box_cell XX.out 2 rfl
    go_wp2_with fail
    clear q12 q12' q13 q13' q14 q14'
    go_at_call 45
    refine (sign_ok (HX.out.below BEL.out.1) OX.out).mono ?_
    rintro en21 w21 ⟨rfl, hb⟩
    replace BEL := Aside0.mk (BEL.out.next hb)
    replace XY := Aside0.mk (blk_below XY.out hb)
    replace XX := Aside0.mk (blk_below XX.out hb)
    replace XR := Aside0.mk (blk_below XR.out hb)
    clear hb
    go_wp2_with fail
    have BLW := BEL
    go_at_call 47
    refine (part_any (3 * sgnI y) 2 _ (sgnI_small3 y) (by decide) (by decide) (tab_below HT.out BEL.out.1)).mono ?_
    rintro en22 w22 ⟨v22, rfl, hr, hb⟩
    replace BEL := Aside0.mk (BEL.out.next hb)
    replace XY := Aside0.mk (blk_below XY.out hb)
    replace XX := Aside0.mk (blk_below XX.out hb)
    replace XR := Aside0.mk (blk_below XR.out hb)
    have P1 := Aside0.mk hr
    obtain ⟨b22, A22, n22, c22, x22, rfl⟩ := hr.ex5
    clear hr hb
    go_wp2_with (((with_reducible refine gate_store (p := 6) rfl ?_); go_must (refine store_box 51 6 (.tmp 46) rfl rfl rfl (g := w.heap.size + 1 + 1) (e := 51) (.agg #[.bool b22, .slice A22 n22 c22, .int .i64 x22, .bool true]) ([.bool b22, .slice A22 n22 c22, .int .i64 x22, .bool true]) rfl rfl rfl info_told ?b1 XR.out rfl ?_; (case b1 => intro q hq; simp at hq; rcases hq with rfl | rfl | rfl | rfl <;> rfl); intro wb hbx hgx; have HX := Aside0.mk hbx; have HG := Aside0.mk hgx; clear hbx hgx)); replace P1 := Aside0.mk (P1.out.grown_box XR.out (by decide) HG.out); replace BEL := Aside0.mk (BEL.out.grown HG.out (by omega)); replace XY := Aside0.mk (blk_grown XY.out HG.out (by omega)); replace XX := Aside0.mk (blk_grown XX.out HG.out (by omega)); replace XR := HX; clear HG)
    refine bodyPost_ret (results_told rfl _ _ (w.heap.size + 1 + 1) _ rfl XR.out rfl) rfl ?_
    exact ⟨_, rfl, P1.out.some.lower (Nat.le_trans (Nat.le_add_right _ _) BLW.out.2), BEL.out.1⟩

theorem angle_any {f : Nat} {u v : Value} {y x : Int} {w : World} (h : CDy w u y (-1074)) (h' : CDy w v x (-1074)) (hy : y.natAbs < 2 ^ 2098) (hx : x.natAbs < 2 ^ 2098) (hT : TabAt 0 Lib.deBruijn64tab w) :
    Calls Tryd.prog 23 #[.int .u8 f, u, v] w fun en w' => ∃ v', en = .returned v' ∧ PO w' w.heap.size v' (angF f y x) ∧ Below w.heap.size w w' := by
  unfold angF
  by_cases e1 : y = 0
  · by_cases e2 : 0 < x
    · rw [if_pos ⟨e1, e2⟩]; exact ang_a h h' hy hx e1 e2 hT
    · rw [if_neg (fun h => e2 h.2)]
      by_cases e3 : f = 33
      · rw [if_pos e3]; exact ang_c h h' hy hx e1 e2 e3 hT
      · rw [if_neg e3, if_pos e1]; exact ang_d h h' hy hx e1 e2 e3 hT
  · rw [if_neg (fun h => e1 h.1)]
    by_cases e3 : f = 33
    · rw [if_pos e3]; exact ang_b h h' hy hx e1 e3 hT
    · rw [if_neg e3, if_neg e1]
      by_cases e4 : x = 0
      · rw [if_pos e4]; exact ang_e h h' hy hx e1 e4 e3 hT
      · rw [if_neg e4]
        by_cases e5 : (y.natAbs : Int) = x.natAbs
        · rw [if_neg (fun h => h e5)]
          by_cases e6 : 0 < x
          · rw [if_pos e6]; exact ang_g h h' hy hx e1 e4 e3 e5 e6 hT
          · rw [if_neg e6]; exact ang_h h h' hy hx e1 e4 e3 e5 e6 hT
        · rw [if_pos e5]; exact ang_f h h' hy hx e1 e4 e3 e5 hT

def is2F (f : Nat) : Bool := decide (f = 33) || decide (f = 34)
set_option maxRecDepth 100000 in
set_option maxHeartbeats 8000000 in
theorem is2_one (f : Nat) (hf : f < 256) (w : World) :
    Calls Tryd.prog 21 #[.int .u8 f] w fun en w' => en = .returned (.bool (is2F f)) ∧ Below w.heap.size w w' := by
  have hb0 := Aside0.mk (Below.refl w.heap.size w)
  unfold is2F
  by_cases h1 : f = 33
  · rw [decide_eq_true h1]
    have d1 : ((f : Int) == 33) = true := by simp; omega
    go_enter Tryd.func21, Tryd.ntmps21
    go_wp2
    go_ret
    exact ⟨rfl, hb0.out⟩
  · rw [decide_eq_false h1]
    have d1 : ((f : Int) == 33) = false := by simp; omega
    obtain ⟨q, hq⟩ : ∃ q, decide (f = 34) = q := ⟨_, rfl⟩
    have d2 : ((f : Int) == 34) = q := by
      rw [← hq]
      by_cases h2 : f = 34
      · subst h2; rfl
      · rw [decide_eq_false h2]; simp; omega
    rw [hq]
    clear h1 hq
    go_enter Tryd.func21, Tryd.ntmps21
    go_wp2
    go_ret
    exact ⟨rfl, hb0.out⟩

def bad2 (y x : Nat) : Bool := !finB y || !finB x || (decide (fromV y = 0) && decide (fromV x = 0))
def exE2 (f y x : Nat) : Int := if is2F f = true then (if bad2 y x = true then 5 else 0) else 2
def exO2 (f y x : Nat) : Option (Int × Int) := if is2F f = true ∧ bad2 y x = false then angF f (fromV y) (fromV x) else none
set_option maxRecDepth 100000 in
set_option maxHeartbeats 8000000 in
theorem exact2_any (f y x : Nat) (hf : f < 256) (hy : y < 18446744073709551616) (hx : x < 18446744073709551616) (w : World) (hT : TabAt 0 Lib.deBruijn64tab w) :
    Calls Tryd.prog 7 #[.int .u8 f, .int .u64 (y : Int), .int .u64 (x : Int)] w fun en w' => ∃ v', en = .returned (.tuple #[v', .bool (exO2 f y x).isSome, .int .i64 (exE2 f y x)]) ∧ PDy w' w.heap.size v' ((exO2 f y x).getD (0, 0)).1 ((exO2 f y x).getD (0, 0)).2 ∧ Below w.heap.size w w' := by
  have HT := Aside0.mk hT
  have HF := Aside0.mk hf
  have QFy := Aside0.mk (fun (W : World) (ht : TabAt 0 Lib.deBruijn64tab W) => from_one y hy W ht)
  have QFx := Aside0.mk (fun (W : World) (ht : TabAt 0 Lib.deBruijn64tab W) => from_one x hx W ht)
  have QIs := Aside0.mk (fun (W : World) => is2_one f hf W)
  have HE := Aside0.mk (show exE2 f y x = if is2F f = true then (if (!finB y || !finB x || (decide (fromV y = 0) && decide (fromV x = 0))) = true then 5 else 0) else 2 from rfl)
  have HO := Aside0.mk (show exO2 f y x = if is2F f = true ∧ (!finB y || !finB x || (decide (fromV y = 0) && decide (fromV x = 0))) = false then angF f (fromV y) (fromV x) else none from rfl)
  have HZY := Aside0.mk (fromV_small y)
  have HZX := Aside0.mk (fromV_small x)
  obtain ⟨eo, heo⟩ : ∃ o, o = exO2 f y x := ⟨_, rfl⟩
  obtain ⟨ee, hee⟩ : ∃ o, o = exE2 f y x := ⟨_, rfl⟩
  rw [← heo] at HO ⊢
  rw [← hee] at HE ⊢
  clear hT hf hx hy heo hee
  generalize fromV y = p at *
  generalize fromV x = q at *
  generalize is2F f = isf at *
  generalize finB x = finx at *
  generalize finB y = finy at *
  go_enter Tryd.func7, Tryd.ntmps7
  have BEL : Aside0 (BelN w 1 (w.alloc (.cells #[.bool false, .slice none 0 0, .int .i64 0] 27))) := ⟨((BelN.zero w).alloc _).less (by decide)⟩
  have XR : Aside0 ((w.alloc (.cells #[.bool false, .slice none 0 0, .int .i64 0] 27)).heap[w.heap.size]? = some (.cells #[.bool false, .slice none 0 0, .int .i64 0] 27 (0, 0))) := ⟨by have h := blk_new w (.cells #[.bool false, .slice none 0 0, .int .i64 0] 27); exact h⟩
  go_wp2_with fail
  have BLY := BEL
  go_at_call 20
  refine (QFy.out _ (tab_below HT.out BEL.out.1)).mono ?_
  rintro en1 w1 ⟨v1, rfl, hr, hb⟩
  replace BEL := Aside0.mk (BEL.out.next hb)
  replace XR := Aside0.mk (blk_below XR.out hb)
  have PY := Aside0.mk hr
  obtain ⟨b1, A1, n1, c1, x1, rfl⟩ := hr.ex
  clear hr hb
  have BELo := BEL
  go_wp2_with (replace BEL := Aside0.mk ((BEL.out.alloc (.cells #[.bool false, .slice none 0 0, .int .i64 0] 27)).less (j := 1) (by omega)); have HN := Aside0.mk (blk_new w1 (.cells #[.bool false, .slice none 0 0, .int .i64 0] 27)); have L_XR := lt_blk XR.out; replace XR := Aside0.mk (blk_alloc XR.out (.cells #[.bool false, .slice none 0 0, .int .i64 0] 27)); replace PY := Aside0.mk (PY.out.below (below_alloc (Below.refl _ _) (.cells #[.bool false, .slice none 0 0, .int .i64 0] 27))); ((with_reducible refine gate_store (p := 9) rfl ?_); go_must (refine store_box 27 9 (.tmp 17) rfl rfl rfl (g := w1.heap.size) (e := 27) (.agg #[.bool b1, .slice A1 n1 c1, .int .i64 x1]) ([.bool b1, .slice A1 n1 c1, .int .i64 x1]) rfl rfl rfl info_dyad ?b1 HN.out rfl ?_; (case b1 => intro q hq; simp at hq; rcases hq with rfl | rfl | rfl <;> rfl); intro wb hbx hgx; have HX := Aside0.mk hbx; have HG := Aside0.mk hgx; clear hbx hgx)); replace PY := Aside0.mk (PY.out.grown_box HN.out (by decide) HG.out); have LB_XY := BELo.out.2; replace BEL := Aside0.mk (BEL.out.grown HG.out (Nat.le_trans (Nat.le_add_right _ _) LB_XY)); replace XR := Aside0.mk (blk_grown XR.out HG.out (Nat.ne_of_lt L_XR)); have NE_XR_XY := Aside0.mk (Nat.ne_of_lt L_XR); clear L_XR; have LL_XY := Aside0.mk LB_XY; clear LB_XY; have XY := HX; clear HG HN HX)
  have BLX := BEL
  go_at_call 20
  refine (QFx.out _ (tab_below HT.out BEL.out.1)).mono ?_
  rintro en2 w2 ⟨v2, rfl, hr, hb⟩
  replace BEL := Aside0.mk (BEL.out.next hb)
  replace XR := Aside0.mk (blk_below XR.out hb)
  replace XY := Aside0.mk (blk_below XY.out hb)
  replace PY := Aside0.mk (PY.out.below hb)
  have PX := Aside0.mk hr
  obtain ⟨b2, A2, n2, c2, x2, rfl⟩ := hr.ex
  clear hr hb
  have BELo := BEL
  go_wp2_with (replace BEL := Aside0.mk ((BEL.out.alloc (.cells #[.bool false, .slice none 0 0, .int .i64 0] 27)).less (j := 1) (by omega)); have HN := Aside0.mk (blk_new w2 (.cells #[.bool false, .slice none 0 0, .int .i64 0] 27)); have L_XR := lt_blk XR.out; replace XR := Aside0.mk (blk_alloc XR.out (.cells #[.bool false, .slice none 0 0, .int .i64 0] 27)); have L_XY := lt_blk XY.out; replace XY := Aside0.mk (blk_alloc XY.out (.cells #[.bool false, .slice none 0 0, .int .i64 0] 27)); replace PY := Aside0.mk (PY.out.below (below_alloc (Below.refl _ _) (.cells #[.bool false, .slice none 0 0, .int .i64 0] 27))); replace PX := Aside0.mk (PX.out.below (below_alloc (Below.refl _ _) (.cells #[.bool false, .slice none 0 0, .int .i64 0] 27))); ((with_reducible refine gate_store (p := 11) rfl ?_); go_must (refine store_box 27 11 (.tmp 22) rfl rfl rfl (g := w2.heap.size) (e := 27) (.agg #[.bool b2, .slice A2 n2 c2, .int .i64 x2]) ([.bool b2, .slice A2 n2 c2, .int .i64 x2]) rfl rfl rfl info_dyad ?b1 HN.out rfl ?_; (case b1 => intro q hq; simp at hq; rcases hq with rfl | rfl | rfl <;> rfl); intro wb hbx hgx; have HX := Aside0.mk hbx; have HG := Aside0.mk hgx; clear hbx hgx)); replace PY := Aside0.mk (PY.out.grown_box HN.out (by decide) HG.out); replace PX := Aside0.mk (PX.out.grown_box HN.out (by decide) HG.out); have LB_XX := BELo.out.2; replace BEL := Aside0.mk (BEL.out.grown HG.out (Nat.le_trans (Nat.le_add_right _ _) LB_XX)); replace XR := Aside0.mk (blk_grown XR.out HG.out (Nat.ne_of_lt L_XR)); replace XY := Aside0.mk (blk_grown XY.out HG.out (Nat.ne_of_lt L_XY)); have NE_XR_XX := Aside0.mk (Nat.ne_of_lt L_XR); have NE_XY_XX := Aside0.mk (Nat.ne_of_lt L_XY); clear L_XR; clear L_XY; have LL_XX := Aside0.mk LB_XX; clear LB_XX; have XX := HX; clear HG HN HX)
  go_at_call 21
  refine (QIs.out _).mono ?_
  rintro en3 w3 ⟨rfl, hb⟩
  replace BEL := Aside0.mk (BEL.out.next hb)
  replace XR := Aside0.mk (blk_below XR.out hb)
  replace XY := Aside0.mk (blk_below XY.out hb)
  replace XX := Aside0.mk (blk_below XX.out hb)
  replace PY := Aside0.mk (PY.out.below hb)
  replace PX := Aside0.mk (PX.out.below hb)
  clear hb
  cases isf
  case false =>
    have HEE : Aside0 (ee = 2) := ⟨by rw [HE.out]; rfl⟩
    have HOO : Aside0 (eo = none) := ⟨by rw [HO.out, if_neg (fun h => by cases h.1)]⟩
    go_wp2_with (((with_reducible refine gate_store (p := 6) rfl ?_); go_must (refine store_box 27 6 (.tmp 28) rfl rfl rfl (g := w.heap.size) (e := 27) (.agg #[.bool false, .slice none 0 0, .int .i64 0]) ([.bool false, .slice none 0 0, .int .i64 0]) rfl rfl rfl info_dyad ?b1 XR.out rfl ?_; (case b1 => intro q hq; simp at hq; rcases hq with rfl | rfl | rfl <;> rfl); intro wb hbx hgx; have HX := Aside0.mk hbx; have HG := Aside0.mk hgx; clear hbx hgx)); replace PY := Aside0.mk (PY.out.grown_box XR.out (by decide) HG.out); replace PX := Aside0.mk (PX.out.grown_box XR.out (by decide) HG.out); replace BEL := Aside0.mk (BEL.out.grown HG.out (by omega)); replace XY := Aside0.mk (blk_grown XY.out HG.out (Ne.symm NE_XR_XY.out)); replace XX := Aside0.mk (blk_grown XX.out HG.out (Ne.symm NE_XR_XX.out)); replace XR := HX; clear HG)
    refine bodyPost_ret (results_list (rs := [.cell 6 27, .tmp 7, .tmp 8]) rfl (by simp) (Vals.box any_dyad info_dyad (g := w.heap.size) rfl XR.out rfl (.tmp (.tmp .nil)))) rfl ?_
    rw [HEE.out, HOO.out]
    exact ⟨_, rfl, PDy.zero _ _ _, BEL.out.1⟩
  case true =>
    have he0 : errB true = 0 := rfl
    have he5 : errB false = 5 := rfl
    cases finy
    case false =>
      have HEE : Aside0 (ee = 5) := ⟨by rw [HE.out]; rfl⟩
      have HOO : Aside0 (eo = none) := ⟨by rw [HO.out, if_neg (fun h => by have := h.2; cases this)]⟩
      go_wp2_with (((with_reducible refine gate_store (p := 6) rfl ?_); go_must (refine store_box 27 6 (.tmp 44) rfl rfl rfl (g := w.heap.size) (e := 27) (.agg #[.bool false, .slice none 0 0, .int .i64 0]) ([.bool false, .slice none 0 0, .int .i64 0]) rfl rfl rfl info_dyad ?b1 XR.out rfl ?_; (case b1 => intro q hq; simp at hq; rcases hq with rfl | rfl | rfl <;> rfl); intro wb hbx hgx; have HX := Aside0.mk hbx; have HG := Aside0.mk hgx; clear hbx hgx)); replace PY := Aside0.mk (PY.out.grown_box XR.out (by decide) HG.out); replace PX := Aside0.mk (PX.out.grown_box XR.out (by decide) HG.out); replace BEL := Aside0.mk (BEL.out.grown HG.out (by omega)); replace XY := Aside0.mk (blk_grown XY.out HG.out (Ne.symm NE_XR_XY.out)); replace XX := Aside0.mk (blk_grown XX.out HG.out (Ne.symm NE_XR_XX.out)); replace XR := HX; clear HG)
      refine bodyPost_ret (results_list (rs := [.cell 6 27, .tmp 7, .tmp 8]) rfl (by simp) (Vals.box any_dyad info_dyad (g := w.heap.size) rfl XR.out rfl (.tmp (.tmp .nil)))) rfl ?_
      rw [HEE.out, HOO.out]
      exact ⟨_, rfl, PDy.zero _ _ _, BEL.out.1⟩
    case true =>
      cases finx
      case false =>
        have HEE : Aside0 (ee = 5) := ⟨by rw [HE.out]; rfl⟩
        have HOO : Aside0 (eo = none) := ⟨by rw [HO.out, if_neg (fun h => by have := h.2; cases this)]⟩
        go_wp2_with (((with_reducible refine gate_store (p := 6) rfl ?_); go_must (refine store_box 27 6 (.tmp 44) rfl rfl rfl (g := w.heap.size) (e := 27) (.agg #[.bool false, .slice none 0 0, .int .i64 0]) ([.bool false, .slice none 0 0, .int .i64 0]) rfl rfl rfl info_dyad ?b1 XR.out rfl ?_; (case b1 => intro q hq; simp at hq; rcases hq with rfl | rfl | rfl <;> rfl); intro wb hbx hgx; have HX := Aside0.mk hbx; have HG := Aside0.mk hgx; clear hbx hgx)); replace PY := Aside0.mk (PY.out.grown_box XR.out (by decide) HG.out); replace PX := Aside0.mk (PX.out.grown_box XR.out (by decide) HG.out); replace BEL := Aside0.mk (BEL.out.grown HG.out (by omega)); replace XY := Aside0.mk (blk_grown XY.out HG.out (Ne.symm NE_XR_XY.out)); replace XX := Aside0.mk (blk_grown XX.out HG.out (Ne.symm NE_XR_XX.out)); replace XR := HX; clear HG)
        refine bodyPost_ret (results_list (rs := [.cell 6 27, .tmp 7, .tmp 8]) rfl (by simp) (Vals.box any_dyad info_dyad (g := w.heap.size) rfl XR.out rfl (.tmp (.tmp .nil)))) rfl ?_
        rw [HEE.out, HOO.out]
        exact ⟨_, rfl, PDy.zero _ _ _, BEL.out.1⟩
      case true =>
        obtain ⟨q0, q0'⟩ := box_cell XY.out 0 rfl
        obtain ⟨q1, q1'⟩ := box_cell XY.out 1 rfl
        obtain ⟨q2, q2'⟩ := box_cell XY.out 2 rfl
        go_wp2_with fail
        clear q0 q0' q1 q1' q2 q2'
        go_at_call 22
        refine (zero_ok PY.out.c (ok_z HZY.out)).mono ?_
        rintro en4 w4 ⟨rfl, hb⟩
        replace BEL := Aside0.mk (BEL.out.next hb)
        replace XR := Aside0.mk (blk_below XR.out hb)
        replace XY := Aside0.mk (blk_below XY.out hb)
        replace XX := Aside0.mk (blk_below XX.out hb)
        replace PY := Aside0.mk (PY.out.below hb)
        replace PX := Aside0.mk (PX.out.below hb)
        clear hb
        by_cases hp0 : p = 0
        case neg =>
          have hd : decide (p = 0) = false := decide_eq_false hp0
          have HEE : Aside0 (ee = 0) := ⟨by rw [HE.out]; rw [hd]; rfl⟩
          have HOO : Aside0 (eo = angF f p q) := ⟨by rw [HO.out, if_pos (by rw [hd]; simp)]⟩
          clear hp0
          obtain ⟨q3, q3'⟩ := box_cell XY.out 0 rfl
          obtain ⟨q4, q4'⟩ := box_cell XY.out 1 rfl
          obtain ⟨q5, q5'⟩ := box_cell XY.out 2 rfl
          obtain ⟨q6, q6'⟩ := box_cell XX.out 0 rfl
          obtain ⟨q7, q7'⟩ := box_cell XX.out 1 rfl
          obtain ⟨q8, q8'⟩ := box_cell XX.out 2 rfl
          go_wp2_with fail
          have BLA := BEL
          clear q3 q3' q4 q4' q5 q5' q6 q6' q7 q7' q8 q8'
          go_at_call 23
          refine (angle_any PY.out.c PX.out.c HZY.out HZX.out (tab_below HT.out BEL.out.1)).mono ?_
          rintro en5 w5 ⟨v5, rfl, hr, hb⟩
          replace BEL := Aside0.mk (BEL.out.next hb)
          replace XR := Aside0.mk (blk_below XR.out hb)
          replace XY := Aside0.mk (blk_below XY.out hb)
          replace XX := Aside0.mk (blk_below XX.out hb)
          replace PY := Aside0.mk (PY.out.below hb)
          replace PX := Aside0.mk (PX.out.below hb)
          have PA := Aside0.mk hr
          obtain ⟨b5, A5, n5, c5, x5, s5, rfl, hs⟩ := hr.ex6
          have HS5 := Aside0.mk hs
          clear hs
          clear hr hb
          have BELo := BEL
          go_wp2_with (replace BEL := Aside0.mk ((BEL.out.alloc (.cells #[.bool false, .slice none 0 0, .int .i64 0, .bool false] 51)).less (j := 1) (by omega)); have HN := Aside0.mk (blk_new w5 (.cells #[.bool false, .slice none 0 0, .int .i64 0, .bool false] 51)); have L_XR := lt_blk XR.out; replace XR := Aside0.mk (blk_alloc XR.out (.cells #[.bool false, .slice none 0 0, .int .i64 0, .bool false] 51)); have L_XY := lt_blk XY.out; replace XY := Aside0.mk (blk_alloc XY.out (.cells #[.bool false, .slice none 0 0, .int .i64 0, .bool false] 51)); have L_XX := lt_blk XX.out; replace XX := Aside0.mk (blk_alloc XX.out (.cells #[.bool false, .slice none 0 0, .int .i64 0, .bool false] 51)); replace PY := Aside0.mk (PY.out.below (below_alloc (Below.refl _ _) (.cells #[.bool false, .slice none 0 0, .int .i64 0, .bool false] 51))); replace PX := Aside0.mk (PX.out.below (below_alloc (Below.refl _ _) (.cells #[.bool false, .slice none 0 0, .int .i64 0, .bool false] 51))); replace PA := Aside0.mk (PA.out.below (below_alloc (Below.refl _ _) (.cells #[.bool false, .slice none 0 0, .int .i64 0, .bool false] 51))); ((with_reducible refine gate_store (p := 13) rfl ?_); go_must (refine store_box 51 13 (.tmp 48) rfl rfl rfl (g := w5.heap.size) (e := 51) (.agg #[.bool b5, .slice A5 n5 c5, .int .i64 x5, .bool s5]) ([.bool b5, .slice A5 n5 c5, .int .i64 x5, .bool s5]) rfl rfl rfl info_told ?b1 HN.out rfl ?_; (case b1 => intro q hq; simp at hq; rcases hq with rfl | rfl | rfl | rfl <;> rfl); intro wb hbx hgx; have HX := Aside0.mk hbx; have HG := Aside0.mk hgx; clear hbx hgx)); replace PY := Aside0.mk (PY.out.grown_box HN.out (by decide) HG.out); replace PX := Aside0.mk (PX.out.grown_box HN.out (by decide) HG.out); replace PA := Aside0.mk (PA.out.grown_box HN.out (by decide) HG.out); have LB_XA := BELo.out.2; replace BEL := Aside0.mk (BEL.out.grown HG.out (Nat.le_trans (Nat.le_add_right _ _) LB_XA)); replace XR := Aside0.mk (blk_grown XR.out HG.out (Nat.ne_of_lt L_XR)); replace XY := Aside0.mk (blk_grown XY.out HG.out (Nat.ne_of_lt L_XY)); replace XX := Aside0.mk (blk_grown XX.out HG.out (Nat.ne_of_lt L_XX)); have NE_XR_XA := Aside0.mk (Nat.ne_of_lt L_XR); have NE_XY_XA := Aside0.mk (Nat.ne_of_lt L_XY); have NE_XX_XA := Aside0.mk (Nat.ne_of_lt L_XX); clear L_XR; clear L_XY; clear L_XX; have LL_XA := Aside0.mk LB_XA; clear LB_XA; have XA := HX; clear HG HN HX)
          go_upto_region 8 with fail
          obtain ⟨GM, hGM⟩ : ∃ G : (Nat → Prop) → (Nat → Value) → World → Prop, G = fun L v W => BelN w 1 W ∧ W.heap[w5.heap.size]? = some (.cells #[.bool b5, .slice A5 n5 c5, .int .i64 x5, .bool s5] 51 (0, 0)) ∧ PO W w.heap.size (.agg #[.bool b5, .slice A5 n5 c5, .int .i64 x5, .bool s5]) (angF f p q) ∧ (L 0 → (v 0) = .pointer (some ⟨w5.heap.size, 0, none⟩)) ∧ (L 1 → (v 1) = .agg #[.bool b5, .slice A5 n5 c5, .int .i64 x5]) ∧ (L 2 → (v 2) = .pointer (some ⟨w5.heap.size, 3, none⟩)) ∧ (L 3 → (v 3) = .bool s5) ∧ ((¬ L 4 → W.heap[w.heap.size]? = some (.cells #[.bool false, .slice none 0 0, .int .i64 0] 27 (0, 0))) ∧ (L 4 → W.heap[w.heap.size]? = some (.cells #[.bool b5, .slice A5 n5 c5, .int .i64 x5] 27 (0, 0)))) ∧ (L 5 → (v 5) = .bool s5) ∧ (L 6 → (v 6) = .int .i64 0) := ⟨_, rfl⟩
          refine wp_region_slotsV [49, 50, 51, 52, 99, 7, 8] (by kernel_rfl) (by kernel_rfl) (G := GM) ?h0M ?hstepM ?hendM
          case h0M =>
            intro v; rw [hGM]
            exact ⟨BEL.out.next (below_drew (Below.refl _ _)), blk_drew XA.out, (PA.out.below (below_drew (Below.refl _ _))).lower BLA.out.1.size, fun h => h.elim, fun h => h.elim, fun h => h.elim, fun h => h.elim, ⟨fun _ => blk_drew XR.out, fun h => h.elim⟩, fun h => h.elim, fun h => h.elim⟩
          case hstepM =>
            intro k o ho v W L hGv hnk haft hcl K hK
            rw [hGM] at hGv
            obtain ⟨hB, hb0, hk0, f0, f1, f2, f3, f4, f5, f6⟩ := hGv
            rcases k with _ | _ | _ | _ | _ | _ | _ | k
            all_goals first
              | (cases ho; done)
              | (obtain rfl := (Option.some.inj ho).symm
                 clear ho
                 rw [if_pos (by rfl)]
                 simp only [setAll, List.setIfInBounds_toArray, List.set_cons_zero, List.set_cons_succ, List.set_nil, List.getElem_toArray, List.getElem_cons_zero, List.getElem_cons_succ, Nat.reduceAdd] at haft hK ⊢)
            case zero =>
              have hb := Below.refl W.heap.size W
              have key := hK.out (.pointer (some ⟨w5.heap.size, 0, none⟩)) W (by rw [hGM]; exact ⟨hB.next hb, blk_below hb0 hb, hk0.below hb, fun _ => by rw [upd_eq], (kv f1 (by decide)), (kv f2 (by decide)), (kv f3 (by decide)), (⟨fun h2 => blk_below (f4.1 (fun h3 => h2 (.inl h3))) hb, fun h2 => blk_below (f4.2 (h2.resolve_right (by decide))) hb⟩), (kv f5 (by decide)), (kv f6 (by decide))⟩)
              clear hb0 hk0 f0 f1 f2 f3 f4 f5 f6 hb hK
              go_simp
              simpa [upd] using key
            case succ.zero =>
              have hns4 : ¬ L 4 := fun hs => hnk (hcl 4 _ rfl hs { on := 1, ground := .data } (by simp) rfl)
              have d0 := f0 (haft { on := 0, ground := .data } (by simp) rfl)
              have D0 := d0
              have cc0 := (box_cell (v := .bool b5) hb0 0 rfl).1
              have cc1 := (box_cell (v := .slice A5 n5 c5) hb0 1 rfl).1
              have cc2 := (box_cell (v := .int .i64 x5) hb0 2 rfl).1
              have hb := Below.refl W.heap.size W
              have key := hK.out (.agg #[.bool b5, .slice A5 n5 c5, .int .i64 x5]) W (by rw [hGM]; exact ⟨hB.next hb, blk_below hb0 hb, hk0.below hb, (kv f0 (by decide)), fun _ => by rw [upd_eq], (kv f2 (by decide)), (kv f3 (by decide)), (⟨fun h2 => blk_below (f4.1 (fun h3 => h2 (.inl h3))) hb, fun h2 => (hns4 (h2.resolve_right (by decide))).elim⟩), (kv f5 (by decide)), (kv f6 (by decide))⟩)
              clear hb0 hk0 f0 f1 f2 f3 f4 f5 f6 hb hK
              go_simp
              simpa [upd, D0] using key
            case succ.succ.zero =>
              have hb := Below.refl W.heap.size W
              have key := hK.out (.pointer (some ⟨w5.heap.size, 3, none⟩)) W (by rw [hGM]; exact ⟨hB.next hb, blk_below hb0 hb, hk0.below hb, (kv f0 (by decide)), (kv f1 (by decide)), fun _ => by rw [upd_eq], (kv f3 (by decide)), (⟨fun h2 => blk_below (f4.1 (fun h3 => h2 (.inl h3))) hb, fun h2 => blk_below (f4.2 (h2.resolve_right (by decide))) hb⟩), (kv f5 (by decide)), (kv f6 (by decide))⟩)
              clear hb0 hk0 f0 f1 f2 f3 f4 f5 f6 hb hK
              go_simp
              simpa [upd] using key
            case succ.succ.succ.zero =>
              have d2 := f2 (haft { on := 2, ground := .data } (by simp) rfl)
              have D2 := d2
              have cc3 := (box_cell (v := .bool s5) hb0 3 rfl).1
              have hb := Below.refl W.heap.size W
              have key := hK.out (.bool s5) W (by rw [hGM]; exact ⟨hB.next hb, blk_below hb0 hb, hk0.below hb, (kv f0 (by decide)), (kv f1 (by decide)), (kv f2 (by decide)), fun _ => by rw [upd_eq], (⟨fun h2 => blk_below (f4.1 (fun h3 => h2 (.inl h3))) hb, fun h2 => blk_below (f4.2 (h2.resolve_right (by decide))) hb⟩), (kv f5 (by decide)), (kv f6 (by decide))⟩)
              clear hb0 hk0 f0 f1 f2 f3 f4 f5 f6 hb hK
              go_simp
              simpa [upd, D2] using key
            case succ.succ.succ.succ.zero =>
              have h_n := NE_XR_XA.out
              have hgb := f4.1 hnk
              have ds := f1 (haft { on := 1, ground := .data } (by simp) rfl)
              have es := ds
              refine wp_store_box 27 6 (.tmp 50) rfl rfl (g := w.heap.size) (e := 27) (v 1) [.bool b5, .slice A5 n5 c5, .int .i64 x5] (by first | rfl | exact rfl) rfl (by rw [es]; rfl) info_dyad ?_ hgb rfl ?_
              · intro q hq; simp at hq; rcases hq with rfl | rfl | rfl <;> rfl
              · intro w1 hw1 hg
                have key := hK.out undef w1 (by rw [hGM]; exact ⟨hB.grown hg (by omega), blk_grown hb0 hg (by omega), hk0.grown_box hgb (by decide) hg, (kv f0 (by decide)), (kv f1 (by decide)), (kv f2 (by decide)), (kv f3 (by decide)), ⟨fun h => (h (.inr rfl)).elim, fun _ => hw1⟩, (kv f5 (by decide)), (kv f6 (by decide))⟩)
                clear hb0 hk0 f0 f1 f2 f3 f4 f5 f6 hK
                simpa [upd] using key
            case succ.succ.succ.succ.succ.zero =>
              have d3 := f3 (haft { on := 3, ground := .data } (by simp) rfl)
              have D3 := d3
              have hb := Below.refl W.heap.size W
              have key := hK.out (.bool s5) W (by rw [hGM]; exact ⟨hB.next hb, blk_below hb0 hb, hk0.below hb, (kv f0 (by decide)), (kv f1 (by decide)), (kv f2 (by decide)), (kv f3 (by decide)), (⟨fun h2 => blk_below (f4.1 (fun h3 => h2 (.inl h3))) hb, fun h2 => blk_below (f4.2 (h2.resolve_right (by decide))) hb⟩), fun _ => by rw [upd_eq], (kv f6 (by decide))⟩)
              clear hb0 hk0 f0 f1 f2 f3 f4 f5 f6 hb hK
              go_simp
              simpa [upd, D3] using key
            case succ.succ.succ.succ.succ.succ.zero =>
              have hb := Below.refl W.heap.size W
              have key := hK.out (.int .i64 0) W (by rw [hGM]; exact ⟨hB.next hb, blk_below hb0 hb, hk0.below hb, (kv f0 (by decide)), (kv f1 (by decide)), (kv f2 (by decide)), (kv f3 (by decide)), (⟨fun h2 => blk_below (f4.1 (fun h3 => h2 (.inl h3))) hb, fun h2 => blk_below (f4.2 (h2.resolve_right (by decide))) hb⟩), (kv f5 (by decide)), fun _ => by rw [upd_eq]⟩)
              clear hb0 hk0 f0 f1 f2 f3 f4 f5 f6 hb hK
              go_simp
              simpa [upd] using key
          case hendM =>
            intro v W L0 hall hGv
            rw [hGM] at hGv
            obtain ⟨hB, hb0, hk0, f0, f1, f2, f3, f4, f5, f6⟩ := hGv
            have d5 := f5 (hall 5 (by decide))
            have d6 := f6 (hall 6 (by decide))
            have d4 := f4.2 (hall 4 (by decide))
            replace BEL := Aside0.mk hB
            replace XR := Aside0.mk d4
            replace PA := Aside0.mk hk0
            clear hall f0 f1 f2 f3 f4 f5 f6 hB hb0 hk0 d4
            simp only [setAll, List.setIfInBounds_toArray, List.set_cons_zero, List.set_cons_succ, List.set_nil, Nat.reduceAdd, d5, d6]
            go_wp2
            refine bodyPost_ret (results_list (rs := [.cell 6 27, .tmp 7, .tmp 8]) rfl (by simp) (Vals.box any_dyad info_dyad (g := w.heap.size) rfl XR.out rfl (.tmp (.tmp .nil)))) rfl ?_
            rw [HEE.out, HOO.out]
            obtain ⟨q1, q2⟩ := PT.d PA.out
            exact ⟨_, by rw [q2]; rfl, q1, BEL.out.1⟩
        case pos =>
          have hd : decide (p = 0) = true := decide_eq_true hp0
          have HP0 := Aside0.mk hp0
          clear hp0
          obtain ⟨q3, q3'⟩ := box_cell XX.out 0 rfl
          obtain ⟨q4, q4'⟩ := box_cell XX.out 1 rfl
          obtain ⟨q5, q5'⟩ := box_cell XX.out 2 rfl
          go_wp2_with fail
          clear q3 q3' q4 q4' q5 q5'
          go_at_call 22
          refine (zero_ok PX.out.c (ok_z HZX.out)).mono ?_
          rintro en5 w5 ⟨rfl, hb⟩
          replace BEL := Aside0.mk (BEL.out.next hb)
          replace XR := Aside0.mk (blk_below XR.out hb)
          replace XY := Aside0.mk (blk_below XY.out hb)
          replace XX := Aside0.mk (blk_below XX.out hb)
          replace PY := Aside0.mk (PY.out.below hb)
          replace PX := Aside0.mk (PX.out.below hb)
          clear hb
          by_cases hq0 : q = 0
          case pos =>
            have hdq : decide (q = 0) = true := decide_eq_true hq0
            have HEE : Aside0 (ee = 5) := ⟨by rw [HE.out]; rw [hd, hdq]; rfl⟩
            have HOO : Aside0 (eo = none) := ⟨by rw [HO.out, if_neg (fun h => by have := h.2; rw [hd, hdq] at this; cases this)]⟩
            clear hq0
            go_wp2_with (((with_reducible refine gate_store (p := 6) rfl ?_); go_must (refine store_box 27 6 (.tmp 44) rfl rfl rfl (g := w.heap.size) (e := 27) (.agg #[.bool false, .slice none 0 0, .int .i64 0]) ([.bool false, .slice none 0 0, .int .i64 0]) rfl rfl rfl info_dyad ?b1 XR.out rfl ?_; (case b1 => intro q hq; simp at hq; rcases hq with rfl | rfl | rfl <;> rfl); intro wb hbx hgx; have HX := Aside0.mk hbx; have HG := Aside0.mk hgx; clear hbx hgx)); replace PY := Aside0.mk (PY.out.grown_box XR.out (by decide) HG.out); replace PX := Aside0.mk (PX.out.grown_box XR.out (by decide) HG.out); replace BEL := Aside0.mk (BEL.out.grown HG.out (by omega)); replace XY := Aside0.mk (blk_grown XY.out HG.out (Ne.symm NE_XR_XY.out)); replace XX := Aside0.mk (blk_grown XX.out HG.out (Ne.symm NE_XR_XX.out)); replace XR := HX; clear HG)
            refine bodyPost_ret (results_list (rs := [.cell 6 27, .tmp 7, .tmp 8]) rfl (by simp) (Vals.box any_dyad info_dyad (g := w.heap.size) rfl XR.out rfl (.tmp (.tmp .nil)))) rfl ?_
            rw [HEE.out, HOO.out]
            exact ⟨_, rfl, PDy.zero _ _ _, BEL.out.1⟩
          case neg =>
            have hdq : decide (q = 0) = false := decide_eq_false hq0
            have HEE : Aside0 (ee = 0) := ⟨by rw [HE.out]; rw [hd, hdq]; rfl⟩
            have HOO : Aside0 (eo = angF f p q) := ⟨by rw [HO.out, if_pos (by rw [hd, hdq]; simp)]⟩
            clear hq0
            obtain ⟨q6, q6'⟩ := box_cell XY.out 0 rfl
            obtain ⟨q7, q7'⟩ := box_cell XY.out 1 rfl
            obtain ⟨q8, q8'⟩ := box_cell XY.out 2 rfl
            obtain ⟨q9, q9'⟩ := box_cell XX.out 0 rfl
            obtain ⟨q10, q10'⟩ := box_cell XX.out 1 rfl
            obtain ⟨q11, q11'⟩ := box_cell XX.out 2 rfl
            go_wp2_with fail
            have BLA := BEL
            clear q6 q6' q7 q7' q8 q8' q9 q9' q10 q10' q11 q11'
            go_at_call 23
            refine (angle_any PY.out.c PX.out.c HZY.out HZX.out (tab_below HT.out BEL.out.1)).mono ?_
            rintro en6 w6 ⟨v6, rfl, hr, hb⟩
            replace BEL := Aside0.mk (BEL.out.next hb)
            replace XR := Aside0.mk (blk_below XR.out hb)
            replace XY := Aside0.mk (blk_below XY.out hb)
            replace XX := Aside0.mk (blk_below XX.out hb)
            replace PY := Aside0.mk (PY.out.below hb)
            replace PX := Aside0.mk (PX.out.below hb)
            have PA := Aside0.mk hr
            obtain ⟨b6, A6, n6, c6, x6, s6, rfl, hs⟩ := hr.ex6
            have HS6 := Aside0.mk hs
            clear hs
            clear hr hb
            have BELo := BEL
            go_wp2_with (replace BEL := Aside0.mk ((BEL.out.alloc (.cells #[.bool false, .slice none 0 0, .int .i64 0, .bool false] 51)).less (j := 1) (by omega)); have HN := Aside0.mk (blk_new w6 (.cells #[.bool false, .slice none 0 0, .int .i64 0, .bool false] 51)); have L_XR := lt_blk XR.out; replace XR := Aside0.mk (blk_alloc XR.out (.cells #[.bool false, .slice none 0 0, .int .i64 0, .bool false] 51)); have L_XY := lt_blk XY.out; replace XY := Aside0.mk (blk_alloc XY.out (.cells #[.bool false, .slice none 0 0, .int .i64 0, .bool false] 51)); have L_XX := lt_blk XX.out; replace XX := Aside0.mk (blk_alloc XX.out (.cells #[.bool false, .slice none 0 0, .int .i64 0, .bool false] 51)); replace PY := Aside0.mk (PY.out.below (below_alloc (Below.refl _ _) (.cells #[.bool false, .slice none 0 0, .int .i64 0, .bool false] 51))); replace PX := Aside0.mk (PX.out.below (below_alloc (Below.refl _ _) (.cells #[.bool false, .slice none 0 0, .int .i64 0, .bool false] 51))); replace PA := Aside0.mk (PA.out.below (below_alloc (Below.refl _ _) (.cells #[.bool false, .slice none 0 0, .int .i64 0, .bool false] 51))); ((with_reducible refine gate_store (p := 13) rfl ?_); go_must (refine store_box 51 13 (.tmp 48) rfl rfl rfl (g := w6.heap.size) (e := 51) (.agg #[.bool b6, .slice A6 n6 c6, .int .i64 x6, .bool s6]) ([.bool b6, .slice A6 n6 c6, .int .i64 x6, .bool s6]) rfl rfl rfl info_told ?b1 HN.out rfl ?_; (case b1 => intro q hq; simp at hq; rcases hq with rfl | rfl | rfl | rfl <;> rfl); intro wb hbx hgx; have HX := Aside0.mk hbx; have HG := Aside0.mk hgx; clear hbx hgx)); replace PY := Aside0.mk (PY.out.grown_box HN.out (by decide) HG.out); replace PX := Aside0.mk (PX.out.grown_box HN.out (by decide) HG.out); replace PA := Aside0.mk (PA.out.grown_box HN.out (by decide) HG.out); have LB_XA := BELo.out.2; replace BEL := Aside0.mk (BEL.out.grown HG.out (Nat.le_trans (Nat.le_add_right _ _) LB_XA)); replace XR := Aside0.mk (blk_grown XR.out HG.out (Nat.ne_of_lt L_XR)); replace XY := Aside0.mk (blk_grown XY.out HG.out (Nat.ne_of_lt L_XY)); replace XX := Aside0.mk (blk_grown XX.out HG.out (Nat.ne_of_lt L_XX)); have NE_XR_XA := Aside0.mk (Nat.ne_of_lt L_XR); have NE_XY_XA := Aside0.mk (Nat.ne_of_lt L_XY); have NE_XX_XA := Aside0.mk (Nat.ne_of_lt L_XX); clear L_XR; clear L_XY; clear L_XX; have LL_XA := Aside0.mk LB_XA; clear LB_XA; have XA := HX; clear HG HN HX)
            go_upto_region 8 with fail
            obtain ⟨GN, hGN⟩ : ∃ G : (Nat → Prop) → (Nat → Value) → World → Prop, G = fun L v W => BelN w 1 W ∧ W.heap[w6.heap.size]? = some (.cells #[.bool b6, .slice A6 n6 c6, .int .i64 x6, .bool s6] 51 (0, 0)) ∧ PO W w.heap.size (.agg #[.bool b6, .slice A6 n6 c6, .int .i64 x6, .bool s6]) (angF f p q) ∧ (L 0 → (v 0) = .pointer (some ⟨w6.heap.size, 0, none⟩)) ∧ (L 1 → (v 1) = .agg #[.bool b6, .slice A6 n6 c6, .int .i64 x6]) ∧ (L 2 → (v 2) = .pointer (some ⟨w6.heap.size, 3, none⟩)) ∧ (L 3 → (v 3) = .bool s6) ∧ ((¬ L 4 → W.heap[w.heap.size]? = some (.cells #[.bool false, .slice none 0 0, .int .i64 0] 27 (0, 0))) ∧ (L 4 → W.heap[w.heap.size]? = some (.cells #[.bool b6, .slice A6 n6 c6, .int .i64 x6] 27 (0, 0)))) ∧ (L 5 → (v 5) = .bool s6) ∧ (L 6 → (v 6) = .int .i64 0) := ⟨_, rfl⟩
            refine wp_region_slotsV [49, 50, 51, 52, 99, 7, 8] (by kernel_rfl) (by kernel_rfl) (G := GN) ?h0N ?hstepN ?hendN
            case h0N =>
              intro v; rw [hGN]
              exact ⟨BEL.out.next (below_drew (Below.refl _ _)), blk_drew XA.out, (PA.out.below (below_drew (Below.refl _ _))).lower BLA.out.1.size, fun h => h.elim, fun h => h.elim, fun h => h.elim, fun h => h.elim, ⟨fun _ => blk_drew XR.out, fun h => h.elim⟩, fun h => h.elim, fun h => h.elim⟩
            case hstepN =>
              intro k o ho v W L hGv hnk haft hcl K hK
              rw [hGN] at hGv
              obtain ⟨hB, hb0, hk0, f0, f1, f2, f3, f4, f5, f6⟩ := hGv
              rcases k with _ | _ | _ | _ | _ | _ | _ | k
              all_goals first
                | (cases ho; done)
                | (obtain rfl := (Option.some.inj ho).symm
                   clear ho
                   rw [if_pos (by rfl)]
                   simp only [setAll, List.setIfInBounds_toArray, List.set_cons_zero, List.set_cons_succ, List.set_nil, List.getElem_toArray, List.getElem_cons_zero, List.getElem_cons_succ, Nat.reduceAdd] at haft hK ⊢)
              case zero =>
                have hb := Below.refl W.heap.size W
                have key := hK.out (.pointer (some ⟨w6.heap.size, 0, none⟩)) W (by rw [hGN]; exact ⟨hB.next hb, blk_below hb0 hb, hk0.below hb, fun _ => by rw [upd_eq], (kv f1 (by decide)), (kv f2 (by decide)), (kv f3 (by decide)), (⟨fun h2 => blk_below (f4.1 (fun h3 => h2 (.inl h3))) hb, fun h2 => blk_below (f4.2 (h2.resolve_right (by decide))) hb⟩), (kv f5 (by decide)), (kv f6 (by decide))⟩)
                clear hb0 hk0 f0 f1 f2 f3 f4 f5 f6 hb hK
                go_simp
                simpa [upd] using key
              case succ.zero =>
                have hns4 : ¬ L 4 := fun hs => hnk (hcl 4 _ rfl hs { on := 1, ground := .data } (by simp) rfl)
                have d0 := f0 (haft { on := 0, ground := .data } (by simp) rfl)
                have D0 := d0
                have cc0 := (box_cell (v := .bool b6) hb0 0 rfl).1
                have cc1 := (box_cell (v := .slice A6 n6 c6) hb0 1 rfl).1
                have cc2 := (box_cell (v := .int .i64 x6) hb0 2 rfl).1
                have hb := Below.refl W.heap.size W
                have key := hK.out (.agg #[.bool b6, .slice A6 n6 c6, .int .i64 x6]) W (by rw [hGN]; exact ⟨hB.next hb, blk_below hb0 hb, hk0.below hb, (kv f0 (by decide)), fun _ => by rw [upd_eq], (kv f2 (by decide)), (kv f3 (by decide)), (⟨fun h2 => blk_below (f4.1 (fun h3 => h2 (.inl h3))) hb, fun h2 => (hns4 (h2.resolve_right (by decide))).elim⟩), (kv f5 (by decide)), (kv f6 (by decide))⟩)
                clear hb0 hk0 f0 f1 f2 f3 f4 f5 f6 hb hK
                go_simp
                simpa [upd, D0] using key
              case succ.succ.zero =>
                have hb := Below.refl W.heap.size W
                have key := hK.out (.pointer (some ⟨w6.heap.size, 3, none⟩)) W (by rw [hGN]; exact ⟨hB.next hb, blk_below hb0 hb, hk0.below hb, (kv f0 (by decide)), (kv f1 (by decide)), fun _ => by rw [upd_eq], (kv f3 (by decide)), (⟨fun h2 => blk_below (f4.1 (fun h3 => h2 (.inl h3))) hb, fun h2 => blk_below (f4.2 (h2.resolve_right (by decide))) hb⟩), (kv f5 (by decide)), (kv f6 (by decide))⟩)
                clear hb0 hk0 f0 f1 f2 f3 f4 f5 f6 hb hK
                go_simp
                simpa [upd] using key
              case succ.succ.succ.zero =>
                have d2 := f2 (haft { on := 2, ground := .data } (by simp) rfl)
                have D2 := d2
                have cc3 := (box_cell (v := .bool s6) hb0 3 rfl).1
                have hb := Below.refl W.heap.size W
                have key := hK.out (.bool s6) W (by rw [hGN]; exact ⟨hB.next hb, blk_below hb0 hb, hk0.below hb, (kv f0 (by decide)), (kv f1 (by decide)), (kv f2 (by decide)), fun _ => by rw [upd_eq], (⟨fun h2 => blk_below (f4.1 (fun h3 => h2 (.inl h3))) hb, fun h2 => blk_below (f4.2 (h2.resolve_right (by decide))) hb⟩), (kv f5 (by decide)), (kv f6 (by decide))⟩)
                clear hb0 hk0 f0 f1 f2 f3 f4 f5 f6 hb hK
                go_simp
                simpa [upd, D2] using key
              case succ.succ.succ.succ.zero =>
                have h_n := NE_XR_XA.out
                have hgb := f4.1 hnk
                have ds := f1 (haft { on := 1, ground := .data } (by simp) rfl)
                have es := ds
                refine wp_store_box 27 6 (.tmp 50) rfl rfl (g := w.heap.size) (e := 27) (v 1) [.bool b6, .slice A6 n6 c6, .int .i64 x6] (by first | rfl | exact rfl) rfl (by rw [es]; rfl) info_dyad ?_ hgb rfl ?_
                · intro q hq; simp at hq; rcases hq with rfl | rfl | rfl <;> rfl
                · intro w1 hw1 hg
                  have key := hK.out undef w1 (by rw [hGN]; exact ⟨hB.grown hg (by omega), blk_grown hb0 hg (by omega), hk0.grown_box hgb (by decide) hg, (kv f0 (by decide)), (kv f1 (by decide)), (kv f2 (by decide)), (kv f3 (by decide)), ⟨fun h => (h (.inr rfl)).elim, fun _ => hw1⟩, (kv f5 (by decide)), (kv f6 (by decide))⟩)
                  clear hb0 hk0 f0 f1 f2 f3 f4 f5 f6 hK
                  simpa [upd] using key
              case succ.succ.succ.succ.succ.zero =>
                have d3 := f3 (haft { on := 3, ground := .data } (by simp) rfl)
                have D3 := d3
                have hb := Below.refl W.heap.size W
                have key := hK.out (.bool s6) W (by rw [hGN]; exact ⟨hB.next hb, blk_below hb0 hb, hk0.below hb, (kv f0 (by decide)), (kv f1 (by decide)), (kv f2 (by decide)), (kv f3 (by decide)), (⟨fun h2 => blk_below (f4.1 (fun h3 => h2 (.inl h3))) hb, fun h2 => blk_below (f4.2 (h2.resolve_right (by decide))) hb⟩), fun _ => by rw [upd_eq], (kv f6 (by decide))⟩)
                clear hb0 hk0 f0 f1 f2 f3 f4 f5 f6 hb hK
                go_simp
                simpa [upd, D3] using key
              case succ.succ.succ.succ.succ.succ.zero =>
                have hb := Below.refl W.heap.size W
                have key := hK.out (.int .i64 0) W (by rw [hGN]; exact ⟨hB.next hb, blk_below hb0 hb, hk0.below hb, (kv f0 (by decide)), (kv f1 (by decide)), (kv f2 (by decide)), (kv f3 (by decide)), (⟨fun h2 => blk_below (f4.1 (fun h3 => h2 (.inl h3))) hb, fun h2 => blk_below (f4.2 (h2.resolve_right (by decide))) hb⟩), (kv f5 (by decide)), fun _ => by rw [upd_eq]⟩)
                clear hb0 hk0 f0 f1 f2 f3 f4 f5 f6 hb hK
                go_simp
                simpa [upd] using key
            case hendN =>
              intro v W L0 hall hGv
              rw [hGN] at hGv
              obtain ⟨hB, hb0, hk0, f0, f1, f2, f3, f4, f5, f6⟩ := hGv
              have d5 := f5 (hall 5 (by decide))
              have d6 := f6 (hall 6 (by decide))
              have d4 := f4.2 (hall 4 (by decide))
              replace BEL := Aside0.mk hB
              replace XR := Aside0.mk d4
              replace PA := Aside0.mk hk0
              clear hall f0 f1 f2 f3 f4 f5 f6 hB hb0 hk0 d4
              simp only [setAll, List.setIfInBounds_toArray, List.set_cons_zero, List.set_cons_succ, List.set_nil, Nat.reduceAdd, d5, d6]
              go_wp2
              refine bodyPost_ret (results_list (rs := [.cell 6 27, .tmp 7, .tmp 8]) rfl (by simp) (Vals.box any_dyad info_dyad (g := w.heap.size) rfl XR.out rfl (.tmp (.tmp .nil)))) rfl ?_
              rw [HEE.out, HOO.out]
              obtain ⟨q1, q2⟩ := PT.d PA.out
              exact ⟨_, by rw [q2]; rfl, q1, BEL.out.1⟩
end Go.Proofs.YtgpjplelgffocaaDoor

namespace Go.Proofs.YtgpjplelgffocaaDoor
open Go.RowKit Go.Proofs.YtgpjplelgffocaaDoorW.PrintWords Limb
set_option linter.unusedVariables false
set_option linter.unusedSimpArgs false
theorem live1 : (exE 9 4652007308841189376, exO 9 4652007308841189376) = (0, some (3, 0)) := by kernel_rfl
theorem live2 : (exE 18 4598175219545276416, exO 18 4598175219545276416) = (0, some (1, 0)) := by kernel_rfl
theorem live3 : exE 18 4602678819172646912 = 5 := by kernel_rfl
theorem live4 : (exE2 34 4607182418800017408 13830554455654793216, exO2 34 4607182418800017408 13830554455654793216) = (0, some (3, -2)) := by kernel_rfl
theorem live5 : domF 7 4607182418800017408 = true := by kernel_rfl
end Go.Proofs.YtgpjplelgffocaaDoor
