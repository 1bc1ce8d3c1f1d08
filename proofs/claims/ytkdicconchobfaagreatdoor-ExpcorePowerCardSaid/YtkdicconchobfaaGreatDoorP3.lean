/- Part 3 of the library of this claim: what the program and the document compute, as contracts of their functions. -/
import Derived.Test.YtkdicconchobfaaGreatDoorP2
import Derived.Laws.Bits64b
import Derived.BigRegion
import Derived.BigQuiet
set_option maxRecDepth 100000
set_option maxHeartbeats 8000000
namespace Go.Proofs.YtkdicconchobfaaGreatDoor
open Go Go.RowKit Go.Proofs.YtkdicconchobfaaGreatDoorW.PrintWords
set_option linter.unusedVariables false
set_option linter.unusedSimpArgs false
section
variable {P : Program} {Q : Exit → Act → World → Prop}
theorem wp_loop_n {c : Code} (I : Nat → Act → World → Prop) {n : Nat} {a : Act} {w : World} (h0 : I n a w)
 (round : ∀ n a w, I n a w → c.wp P (Exit.then (fun a' w' => ∃ m, m < n ∧ I m a' w') Q) a w) : (Code.loop c).wp P Q a w := by
 intro b k cs
 have key : ∀ n a w, I n a w → ∃ e a' w', Q e a' w' ∧ Arrives P (lone (b.at a (.code c :: .inLoop c :: k)) cs w) b k cs e a' w' := by
  intro n
  induction n using Nat.strongRecOn with
  | _ n ih =>
    intro a w hI
    obtain ⟨e, a₁, w₁, hq, harr⟩ := round n a w hI b (.inLoop c :: k) cs
    cases e with
    | normal =>
      obtain ⟨m, hlt, hI₁⟩ := hq
      obtain ⟨e₂, a₂, w₂, hq₂, harr₂⟩ := ih m hlt a₁ w₁ hI₁
      exact ⟨e₂, a₂, w₂, hq₂, .of_steps (Steps.trans harr (.one step_inLoop)) harr₂⟩
    | exit id => exact ⟨_, a₁, w₁, hq, .pass (x := .inLoop c) rfl (fun _ _ => .inl (by simp)) harr⟩
    | goto l => exact ⟨_, a₁, w₁, hq, .pass (x := .inLoop c) rfl (fun _ _ => .inl (by simp)) harr⟩
    | ret => exact ⟨_, a₁, w₁, hq, .pass (x := .inLoop c) rfl (fun _ _ => .inl (by simp)) harr⟩
    | panic ch => exact ⟨_, a₁, w₁, hq, .pass (x := .inLoop c) rfl (fun _ _ => .inl (by simp)) harr⟩
    | outgrown => exact ⟨_, a₁, w₁, hq, .pass (x := .inLoop c) rfl (fun _ _ => .inl (by simp)) harr⟩
 obtain ⟨e, a', w', hq, harr⟩ := key n a w h0
 exact ⟨e, a', w', hq, .of_steps (.one step_loop) harr⟩
end
section
variable {P : Program} {u : TypeId} {w0 : World}
theorem Reach.of_below {W : World} (h : BL w0 W) : Reach u w0 [W] W := ⟨h, fun i x hx => by
 cases i with
 | zero => simp at hx; subst hx; exact .refl _ _
 | succ i => simp at hx⟩
theorem St.to {F F' : List Sy} {bx bx' : List Bx} {E E' : List Value} {g : Nat → Nat} {a : Act} {W : World} (h : St w0 F bx E g a W) (σ : List Nat)
 (hF : Sy.evs E g F = Sy.evs E' (fun b => g (σ.getD b 0)) F') (hb : (bx'.map fun x => some (x.t, x.ro, Sy.evs E' (fun b => g (σ.getD b 0)) x.c)) = σ.map fun b => (bx[b]?).map fun x => (x.t, x.ro, Sy.evs E g x.c))
 (hs : σ.Nodup) (h1 : (E'.all (·.oneCell')) = true) : St w0 F' bx' E' (fun b => g (σ.getD b 0)) a W := by
 have key : ∀ b x', bx'[b]? = some x' → ∃ x, σ[b]? = some (σ.getD b 0) ∧ bx[σ.getD b 0]? = some x ∧ x'.t = x.t ∧ x'.ro = x.ro ∧ Sy.evs E' (fun b => g (σ.getD b 0)) x'.c = Sy.evs E g x.c := by
  intro b x' hx'
  have := congrArg (fun l => l[b]?) hb
  simp only [List.getElem?_map, hx', Option.map_some] at this
  cases hσ : σ[b]? with
  | none => rw [hσ] at this; cases this
  | some c =>
    have hc : σ.getD b 0 = c := by rw [List.getD_eq_getElem?_getD, hσ]; rfl
    rw [hσ] at this
    simp only [Option.map_some, Option.some.injEq] at this
    rw [hc]
    cases hx : bx[c]? with
    | none => rw [hx] at this; cases this
    | some x =>
      rw [hx] at this
      simp only [Option.map_some, Option.some.injEq, Prod.mk.injEq] at this
      exact ⟨x, rfl, rfl, this.1, this.2.1, this.2.2⟩
 refine ⟨by rw [h.act, hF], ?_, ?_, ?_, h1⟩
 · intro b x' hx'
   obtain ⟨x, _, h2, h3, h4, h5⟩ := key b x' hx'
   rw [h5, h3]; exact h.box _ x h2
 · intro b x' hx'
   obtain ⟨x, _, h2, h3, h4, h5⟩ := key b x' hx'
   rw [h4]; exact h.low _ x h2
 · intro b b' x' y' hx' hy' hro hg
   obtain ⟨x, g1, h2, h3, h4, h5⟩ := key b x' hx'
   obtain ⟨y, k1, k2, k3, k4, k5⟩ := key b' y' hy'
   rw [h4, k4] at hro
   have := h.inj _ _ x y h2 k2 hro hg
   rw [← this] at k1
   exact (List.getElem?_inj (List.getElem?_eq_some_iff.1 g1).1 hs).1 (g1.trans k1.symm)
def clFs (R : Rg) : List FuncId := (List.range R.n).filterMap fun k => match (R.p k).kd with | .cl _ f _ _ _ => some f | _ => none
def EnL (P : Program) : List FuncId → Prop
 | [] => True
 | f :: r => Enters P f ∧ EnL P r
theorem ents_of {R : Rg} (l : List FuncId) (h : clFs R = l) (hl : EnL P l) : ∀ k, k < R.n → ∀ i f args nv bs, (R.p k).kd = .cl i f args nv bs → Enters P f := by
 intro k hk i f args nv bs hkd
 have hm : f ∈ l := by
  rw [← h]
  unfold clFs
  rw [List.mem_filterMap]
  exact ⟨k, List.mem_range.2 hk, by rw [hkd]⟩
 clear h
 induction l with
 | nil => cases hm
 | cons a r ih =>
   rcases List.mem_cons.1 hm with rfl | hm
   · exact hl.1
   · exact ih hl.2 hm
def jv {F : List Sy} {bx : List Bx} {E : List Value} {g : Nat → Nat} {a : Act} {W : World} (_ : St w0 F bx E g a W) (js : List Nat) : List Value := js.map fun s => (F.getD s default).ev E g
theorem fn_enter2 {f : FuncId} {fn : Func} {c : Code} {args : Array Value} {w : World} {K : Ending → World → Prop} (hf : P.funcs[f]? = some fn) (hb : fn.body = some c) (F : List Sy) (bx : List Bx) (E : List Value) (g : Nat → Nat)
 (hF : args ++ Array.replicate (fn.ntmps - args.size) undef = (Sy.evs E g F).toArray) (h1 : (E.all (·.oneCell')) = true) (hro : (bx.all fun x : Bx => x.ro) = true)
 (hbx : ∀ (b : Nat) (x : Bx), bx[b]? = some x → w.heap[g b]? = some (.cells (Sy.evs E g x.c).toArray x.t (0, 0)))
 (h : ∀ a, St w F bx E g a w → Reach u w [] w → c.wp P (bodyPost P fn K) a w) : Calls P f args w K := by
 have hr : ∀ (b : Nat) (x : Bx), bx[b]? = some x → x.ro = true := fun b x hx => List.all_eq_true.1 hro x (List.mem_of_getElem? hx)
 refine calls_of_wp hf hb (h _ ⟨by rw [hF], hbx, ?_, ?_, h1⟩ (.zero w))
 · intro b x hx
   refine ⟨fun hf => ?_, ?_⟩
   · rw [hr b x hx] at hf; cases hf
   · have := hbx b x hx
     refine Nat.lt_of_not_le fun hle => ?_
     rw [Array.getElem?_eq_none hle] at this; cases this
 · intro b b' x x' hx hx' hro
   rw [hr b x hx, hr b' x' hx'] at hro
   rcases hro with h | h <;> cases h
end
open Go Go.RowKit Go.Proofs.YtkdicconchobfaaGreatDoorW.PrintWords Limb Exq
theorem cmp_lt {a b : Rat} : decide (cmpQ a b < 0) = decide (a < b) := by
 unfold cmpQ
 by_cases h : a < b
 · rw [if_pos h, decide_eq_true h]; rfl
 · rw [if_neg h, decide_eq_false h]; split <;> rfl
theorem cmp_gt {a b : Rat} : decide (cmpQ a b > 0) = decide (b < a) := by
 unfold cmpQ
 by_cases h : a < b
 · rw [if_pos h, decide_eq_false (p := b < a) (fun h' => by grind)]; rfl
 · rw [if_neg h]
   by_cases h' : b < a
   · rw [if_pos h', decide_eq_true h']; rfl
   · rw [if_neg h', decide_eq_false h']; rfl
theorem span_step {q : Nat → Rat} {i j m : Nat} {b c : Bool} (h : ∀ k, k < m → q i ≤ q k ∧ q k ≤ q j) (h1 : decide (cmpQ (q m) (q i) < 0) = b) (h2 : decide (cmpQ (q m) (q j) > 0) = c) : ∀ k, k < m + 1 → q (if b = true then m else i) ≤ q k ∧ q k ≤ q (if c = true then m else j) := by
 rw [cmp_lt] at h1
 rw [cmp_gt] at h2
 intro k hk
 have hlt : k < m ∨ k = m := by omega
 constructor
 · cases b
   · have := of_decide_eq_false h1
     rcases hlt with h3 | rfl
     · exact (h k h3).1
     · exact Rat.not_lt.1 this
   · have := of_decide_eq_true h1
     rcases hlt with h3 | rfl
     · exact Rat.le_trans (Rat.le_of_lt this) (h k h3).1
     · exact Rat.le_refl
 · cases c
   · have := of_decide_eq_false h2
     rcases hlt with h3 | rfl
     · exact (h k h3).2
     · exact Rat.not_lt.1 this
   · have := of_decide_eq_true h2
     rcases hlt with h3 | rfl
     · exact Rat.le_trans (h k h3).2 (Rat.le_of_lt this)
     · exact Rat.le_refl
def Ff112_0 : List Sy := [osl (ps 0 0) 4, U, U, U, U, U, U, U, U, U, U, U, U, U, U, U, U, U, U, U, U, U, U, U, U, U, U, U, U, U, U, U, U, U, U, U]
def Ff112_1 := fs Ff112_0 [(2, ps 1 0)]
def Bf112_2 := [rb 25 [vb 0, vs 1, vi 2, vb 3, vs 4, vi 5, vb 6, vs 7, vi 8, vb 9, vs 10, vi 11], bb 28 o6]
def Rf112_3 : Rg := ⟨1, 12, 1, Ff112_0, Bf112_2, [pa 1 0], []⟩
def Ff112_4 := fs Ff112_1 [(3, ps 2 0), (6, osl (ps 0 0) 4), (7, ps 0 0), (8, dg 0), (9, osl (ps 0 0) 4), (10, ps 0 0), (11, dg 0), (12, ag [vb 0, vs 1, vi 2, vb 0, vs 1, vi 2])]
def Bf112_5 := [rb 25 [vb 0, vs 1, vi 2, vb 3, vs 4, vi 5, vb 6, vs 7, vi 8, vb 9, vs 10, vi 11], bb 28 o6, bb 28 o6]
def Rf112_6 : Rg := ⟨8, 12, 2, Ff112_1, Bf112_5, [pv (osl (ps 0 0) 4) 0, pv (ps 0 0) 0, pl (dg 0) 0 0 0, pv (osl (ps 0 0) 4) 0, pv (ps 0 0) 0, pl (dg 0) 0 0 0, pv (ag [vb 0, vs 1, vi 2, vb 0, vs 1, vi 2]) 0, pa 2 0], []⟩
def Bf112_7 := [rb 25 [vb 0, vs 1, vi 2, vb 3, vs 4, vi 5, vb 6, vs 7, vi 8, vb 9, vs 10, vi 11], bb 28 o6, bb 28 [vb 0, vs 1, vi 2, vb 0, vs 1, vi 2]]
def Ff112_8 := fs Ff112_4 [(13, osl (ps 0 0) 4), (14, osl (ps 0 3) 3), (15, li 3), (16, li 0)]
def Rf112_9 : Rg := ⟨4, 12, 3, Ff112_4, Bf112_7, [pv (osl (ps 0 0) 4) 0, pv (osl (ps 0 3) 3) 0, pv (li 3) 0, pv (li 0) 0], []⟩
def Lf112_10 (jj1 : List Value) : List Sy := [osl (ps 0 0) 4, U, ps 1 0, ps 2 0, U, jw jj1 0, osl (ps 0 0) 4, ps 0 0, dg 0, osl (ps 0 0) 4, ps 0 0, dg 0, ag [vb 0, vs 1, vi 2, vb 0, vs 1, vi 2], osl (ps 0 0) 4, osl (ps 0 3) 3, li 3, li 0, jw jj1 1, jw jj1 2, jw jj1 3, jw jj1 4, jw jj1 5, jw jj1 6, jw jj1 7, jw jj1 8, jw jj1 9, jw jj1 10, jw jj1 11, jw jj1 12, jw jj1 13, jw jj1 14, jw jj1 15, jw jj1 16, jw jj1 17, jw jj1 18, U]
def Lf112_11 (jj1 : List Value) := fs (Lf112_10 jj1) [(16, li 1)]
def Lf112_12 (jj1 : List Value) := fs (Lf112_10 jj1) [(16, li 2)]
def Lf112_13 (jj1 : List Value) := fs (Lf112_10 jj1) [(16, li 3)]
def Jf112_14 : List Nat := [5, 17, 18, 19, 20, 21, 22, 23, 24, 25, 26, 27, 28, 29, 30, 31, 32, 33, 34]
def Bf112_15 := [rb 25 [vb 0, vs 1, vi 2, vb 3, vs 4, vi 5, vb 6, vs 7, vi 8, vb 9, vs 10, vi 11], bb 28 o6, bb 28 (i6 12)]
def Ff112_16 (jj1 : List Value) := fs (Lf112_10 jj1) [(17, lb true)]
def Rf112_17 (jj1 : List Value) : Rg := ⟨1, 18, 3, (Lf112_10 jj1), Bf112_15, [pv (lb true) 0], []⟩
def Ff112_18 (jj1 : List Value) := fs (Ff112_16 jj1) [(5, ps 3 0), (18, ps 0 3), (19, dg 3)]
def Bf112_19 := [rb 25 [vb 0, vs 1, vi 2, vb 3, vs 4, vi 5, vb 6, vs 7, vi 8, vb 9, vs 10, vi 11], bb 28 o6, bb 28 (i6 12), bb 25 o3]
def Rf112_20 (jj1 : List Value) : Rg := ⟨3, 18, 3, (Ff112_16 jj1), Bf112_19, [pv (ps 0 3) 0, pl (dg 3) 0 0 3, pa 3 0], []⟩
def Bf112_21 := [rb 25 [vb 0, vs 1, vi 2, vb 3, vs 4, vi 5, vb 6, vs 7, vi 8, vb 9, vs 10, vi 11], bb 28 o6, bb 28 (i6 12), bb 25 (d3 3)]
def Ff112_22 (jj1 : List Value) := fs (Ff112_18 jj1) [(20, dg 3), (21, ps 2 0), (22, dg 12), (23, vi 18), (24, bo .lss (vi 18) (li 0))]
def Rf112_23 (jj1 : List Value) : Rg := ⟨5, 18, 4, (Ff112_18 jj1), Bf112_21, [pl (dg 3) 0 3 0, pv (ps 2 0) 0, pl (dg 12) 0 2 0, pc (vi 18) 0 67 [dg 3, dg 12] 1, pv (bo .lss (vi 18) (li 0)) 1], [3]⟩
def Ff112_24 (jj1 : List Value) := fs (Ff112_22 jj1) [(25, dg 3), (26, ps 2 0)]
def Rf112_25 (jj1 : List Value) : Rg := ⟨2, 19, 4, (Ff112_22 jj1), Bf112_21, [pl (dg 3) 0 3 0, pv (ps 2 0) 0], []⟩
def Bf112_26 := [rb 25 [vb 0, vs 1, vi 2, vb 3, vs 4, vi 5, vb 6, vs 7, vi 8, vb 9, vs 10, vi 11], bb 28 o6, bb 28 [vb 3, vs 4, vi 5, vb 15, vs 16, vi 17], bb 25 (d3 3)]
def Ff112_27 (jj1 : List Value) := fs (Ff112_24 jj1) [(27, dg 3), (28, ps 2 3), (29, dg 15), (30, vi 19), (31, bo .gtr (vi 19) (li 0))]
def Rf112_28 (jj1 : List Value) : Rg := ⟨5, 19, 4, (Ff112_24 jj1), Bf112_26, [pl (dg 3) 0 3 0, pv (ps 2 3) 0, pl (dg 15) 0 2 3, pc (vi 19) 0 67 [dg 3, dg 15] 1, pv (bo .gtr (vi 19) (li 0)) 1], [3]⟩
def Ff112_29 (jj1 : List Value) := fs (Ff112_27 jj1) [(32, dg 3), (33, ps 2 3)]
def Rf112_30 (jj1 : List Value) : Rg := ⟨2, 20, 4, (Ff112_27 jj1), Bf112_26, [pl (dg 3) 0 3 0, pv (ps 2 3) 0], []⟩
def Bf112_31 := [rb 25 [vb 0, vs 1, vi 2, vb 3, vs 4, vi 5, vb 6, vs 7, vi 8, vb 9, vs 10, vi 11], bb 28 o6, bb 28 [vb 3, vs 4, vi 5, vb 3, vs 4, vi 5], bb 25 (d3 3)]
def Ff112_32 (jj1 : List Value) := fs (Ff112_29 jj1) [(16, li 1), (34, li 1)]
def Rf112_33 (jj1 : List Value) : Rg := ⟨1, 20, 4, (Ff112_29 jj1), Bf112_31, [pv (li 1) 0], []⟩
def Ff112_34 (jj1 : List Value) := fs (Ff112_27 jj1) [(16, li 1), (34, li 1)]
def Rf112_35 (jj1 : List Value) : Rg := ⟨1, 20, 4, (Ff112_27 jj1), Bf112_26, [pv (li 1) 0], []⟩
def Ff112_36 (jj1 : List Value) := fs (Ff112_22 jj1) [(27, dg 3), (28, ps 2 3), (29, dg 15), (30, vi 19), (31, bo .gtr (vi 19) (li 0))]
def Rf112_37 (jj1 : List Value) : Rg := ⟨5, 19, 4, (Ff112_22 jj1), Bf112_21, [pl (dg 3) 0 3 0, pv (ps 2 3) 0, pl (dg 15) 0 2 3, pc (vi 19) 0 67 [dg 3, dg 15] 1, pv (bo .gtr (vi 19) (li 0)) 1], [3]⟩
def Ff112_38 (jj1 : List Value) := fs (Ff112_36 jj1) [(32, dg 3), (33, ps 2 3)]
def Rf112_39 (jj1 : List Value) : Rg := ⟨2, 20, 4, (Ff112_36 jj1), Bf112_21, [pl (dg 3) 0 3 0, pv (ps 2 3) 0], []⟩
def Bf112_40 := [rb 25 [vb 0, vs 1, vi 2, vb 3, vs 4, vi 5, vb 6, vs 7, vi 8, vb 9, vs 10, vi 11], bb 28 o6, bb 28 [vb 12, vs 13, vi 14, vb 3, vs 4, vi 5], bb 25 (d3 3)]
def Ff112_41 (jj1 : List Value) := fs (Ff112_38 jj1) [(16, li 1), (34, li 1)]
def Rf112_42 (jj1 : List Value) : Rg := ⟨1, 20, 4, (Ff112_38 jj1), Bf112_40, [pv (li 1) 0], []⟩
def Ff112_43 (jj1 : List Value) := fs (Ff112_36 jj1) [(16, li 1), (34, li 1)]
def Rf112_44 (jj1 : List Value) : Rg := ⟨1, 20, 4, (Ff112_36 jj1), Bf112_21, [pv (li 1) 0], []⟩
def Ff112_45 (jj1 : List Value) := fs (Lf112_11 jj1) [(17, lb true)]
def Rf112_46 (jj1 : List Value) : Rg := ⟨1, 18, 3, (Lf112_11 jj1), Bf112_15, [pv (lb true) 0], []⟩
def Ff112_47 (jj1 : List Value) := fs (Ff112_45 jj1) [(5, ps 3 0), (18, ps 0 6), (19, dg 6)]
def Rf112_48 (jj1 : List Value) : Rg := ⟨3, 18, 3, (Ff112_45 jj1), Bf112_19, [pv (ps 0 6) 0, pl (dg 6) 0 0 6, pa 3 0], []⟩
def Bf112_49 := [rb 25 [vb 0, vs 1, vi 2, vb 3, vs 4, vi 5, vb 6, vs 7, vi 8, vb 9, vs 10, vi 11], bb 28 o6, bb 28 (i6 12), bb 25 (d3 6)]
def Ff112_50 (jj1 : List Value) := fs (Ff112_47 jj1) [(20, dg 6), (21, ps 2 0), (22, dg 12), (23, vi 18), (24, bo .lss (vi 18) (li 0))]
def Rf112_51 (jj1 : List Value) : Rg := ⟨5, 18, 4, (Ff112_47 jj1), Bf112_49, [pl (dg 6) 0 3 0, pv (ps 2 0) 0, pl (dg 12) 0 2 0, pc (vi 18) 0 67 [dg 6, dg 12] 1, pv (bo .lss (vi 18) (li 0)) 1], [3]⟩
def Ff112_52 (jj1 : List Value) := fs (Ff112_50 jj1) [(25, dg 6), (26, ps 2 0)]
def Rf112_53 (jj1 : List Value) : Rg := ⟨2, 19, 4, (Ff112_50 jj1), Bf112_49, [pl (dg 6) 0 3 0, pv (ps 2 0) 0], []⟩
def Bf112_54 := [rb 25 [vb 0, vs 1, vi 2, vb 3, vs 4, vi 5, vb 6, vs 7, vi 8, vb 9, vs 10, vi 11], bb 28 o6, bb 28 [vb 6, vs 7, vi 8, vb 15, vs 16, vi 17], bb 25 (d3 6)]
def Ff112_55 (jj1 : List Value) := fs (Ff112_52 jj1) [(27, dg 6), (28, ps 2 3), (29, dg 15), (30, vi 19), (31, bo .gtr (vi 19) (li 0))]
def Rf112_56 (jj1 : List Value) : Rg := ⟨5, 19, 4, (Ff112_52 jj1), Bf112_54, [pl (dg 6) 0 3 0, pv (ps 2 3) 0, pl (dg 15) 0 2 3, pc (vi 19) 0 67 [dg 6, dg 15] 1, pv (bo .gtr (vi 19) (li 0)) 1], [3]⟩
def Ff112_57 (jj1 : List Value) := fs (Ff112_55 jj1) [(32, dg 6), (33, ps 2 3)]
def Rf112_58 (jj1 : List Value) : Rg := ⟨2, 20, 4, (Ff112_55 jj1), Bf112_54, [pl (dg 6) 0 3 0, pv (ps 2 3) 0], []⟩
def Bf112_59 := [rb 25 [vb 0, vs 1, vi 2, vb 3, vs 4, vi 5, vb 6, vs 7, vi 8, vb 9, vs 10, vi 11], bb 28 o6, bb 28 [vb 6, vs 7, vi 8, vb 6, vs 7, vi 8], bb 25 (d3 6)]
def Ff112_60 (jj1 : List Value) := fs (Ff112_57 jj1) [(16, li 2), (34, li 2)]
def Rf112_61 (jj1 : List Value) : Rg := ⟨1, 20, 4, (Ff112_57 jj1), Bf112_59, [pv (li 2) 0], []⟩
def Ff112_62 (jj1 : List Value) := fs (Ff112_55 jj1) [(16, li 2), (34, li 2)]
def Rf112_63 (jj1 : List Value) : Rg := ⟨1, 20, 4, (Ff112_55 jj1), Bf112_54, [pv (li 2) 0], []⟩
def Ff112_64 (jj1 : List Value) := fs (Ff112_50 jj1) [(27, dg 6), (28, ps 2 3), (29, dg 15), (30, vi 19), (31, bo .gtr (vi 19) (li 0))]
def Rf112_65 (jj1 : List Value) : Rg := ⟨5, 19, 4, (Ff112_50 jj1), Bf112_49, [pl (dg 6) 0 3 0, pv (ps 2 3) 0, pl (dg 15) 0 2 3, pc (vi 19) 0 67 [dg 6, dg 15] 1, pv (bo .gtr (vi 19) (li 0)) 1], [3]⟩
def Ff112_66 (jj1 : List Value) := fs (Ff112_64 jj1) [(32, dg 6), (33, ps 2 3)]
def Rf112_67 (jj1 : List Value) : Rg := ⟨2, 20, 4, (Ff112_64 jj1), Bf112_49, [pl (dg 6) 0 3 0, pv (ps 2 3) 0], []⟩
def Bf112_68 := [rb 25 [vb 0, vs 1, vi 2, vb 3, vs 4, vi 5, vb 6, vs 7, vi 8, vb 9, vs 10, vi 11], bb 28 o6, bb 28 [vb 12, vs 13, vi 14, vb 6, vs 7, vi 8], bb 25 (d3 6)]
def Ff112_69 (jj1 : List Value) := fs (Ff112_66 jj1) [(16, li 2), (34, li 2)]
def Rf112_70 (jj1 : List Value) : Rg := ⟨1, 20, 4, (Ff112_66 jj1), Bf112_68, [pv (li 2) 0], []⟩
def Ff112_71 (jj1 : List Value) := fs (Ff112_64 jj1) [(16, li 2), (34, li 2)]
def Rf112_72 (jj1 : List Value) : Rg := ⟨1, 20, 4, (Ff112_64 jj1), Bf112_49, [pv (li 2) 0], []⟩
def Ff112_73 (jj1 : List Value) := fs (Lf112_12 jj1) [(17, lb true)]
def Rf112_74 (jj1 : List Value) : Rg := ⟨1, 18, 3, (Lf112_12 jj1), Bf112_15, [pv (lb true) 0], []⟩
def Ff112_75 (jj1 : List Value) := fs (Ff112_73 jj1) [(5, ps 3 0), (18, ps 0 9), (19, dg 9)]
def Rf112_76 (jj1 : List Value) : Rg := ⟨3, 18, 3, (Ff112_73 jj1), Bf112_19, [pv (ps 0 9) 0, pl (dg 9) 0 0 9, pa 3 0], []⟩
def Bf112_77 := [rb 25 [vb 0, vs 1, vi 2, vb 3, vs 4, vi 5, vb 6, vs 7, vi 8, vb 9, vs 10, vi 11], bb 28 o6, bb 28 (i6 12), bb 25 (d3 9)]
def Ff112_78 (jj1 : List Value) := fs (Ff112_75 jj1) [(20, dg 9), (21, ps 2 0), (22, dg 12), (23, vi 18), (24, bo .lss (vi 18) (li 0))]
def Rf112_79 (jj1 : List Value) : Rg := ⟨5, 18, 4, (Ff112_75 jj1), Bf112_77, [pl (dg 9) 0 3 0, pv (ps 2 0) 0, pl (dg 12) 0 2 0, pc (vi 18) 0 67 [dg 9, dg 12] 1, pv (bo .lss (vi 18) (li 0)) 1], [3]⟩
def Ff112_80 (jj1 : List Value) := fs (Ff112_78 jj1) [(25, dg 9), (26, ps 2 0)]
def Rf112_81 (jj1 : List Value) : Rg := ⟨2, 19, 4, (Ff112_78 jj1), Bf112_77, [pl (dg 9) 0 3 0, pv (ps 2 0) 0], []⟩
def Bf112_82 := [rb 25 [vb 0, vs 1, vi 2, vb 3, vs 4, vi 5, vb 6, vs 7, vi 8, vb 9, vs 10, vi 11], bb 28 o6, bb 28 [vb 9, vs 10, vi 11, vb 15, vs 16, vi 17], bb 25 (d3 9)]
def Ff112_83 (jj1 : List Value) := fs (Ff112_80 jj1) [(27, dg 9), (28, ps 2 3), (29, dg 15), (30, vi 19), (31, bo .gtr (vi 19) (li 0))]
def Rf112_84 (jj1 : List Value) : Rg := ⟨5, 19, 4, (Ff112_80 jj1), Bf112_82, [pl (dg 9) 0 3 0, pv (ps 2 3) 0, pl (dg 15) 0 2 3, pc (vi 19) 0 67 [dg 9, dg 15] 1, pv (bo .gtr (vi 19) (li 0)) 1], [3]⟩
def Ff112_85 (jj1 : List Value) := fs (Ff112_83 jj1) [(32, dg 9), (33, ps 2 3)]
def Rf112_86 (jj1 : List Value) : Rg := ⟨2, 20, 4, (Ff112_83 jj1), Bf112_82, [pl (dg 9) 0 3 0, pv (ps 2 3) 0], []⟩
def Bf112_87 := [rb 25 [vb 0, vs 1, vi 2, vb 3, vs 4, vi 5, vb 6, vs 7, vi 8, vb 9, vs 10, vi 11], bb 28 o6, bb 28 [vb 9, vs 10, vi 11, vb 9, vs 10, vi 11], bb 25 (d3 9)]
def Ff112_88 (jj1 : List Value) := fs (Ff112_85 jj1) [(16, li 3), (34, li 3)]
def Rf112_89 (jj1 : List Value) : Rg := ⟨1, 20, 4, (Ff112_85 jj1), Bf112_87, [pv (li 3) 0], []⟩
def Ff112_90 (jj1 : List Value) := fs (Ff112_83 jj1) [(16, li 3), (34, li 3)]
def Rf112_91 (jj1 : List Value) : Rg := ⟨1, 20, 4, (Ff112_83 jj1), Bf112_82, [pv (li 3) 0], []⟩
def Ff112_92 (jj1 : List Value) := fs (Ff112_78 jj1) [(27, dg 9), (28, ps 2 3), (29, dg 15), (30, vi 19), (31, bo .gtr (vi 19) (li 0))]
def Rf112_93 (jj1 : List Value) : Rg := ⟨5, 19, 4, (Ff112_78 jj1), Bf112_77, [pl (dg 9) 0 3 0, pv (ps 2 3) 0, pl (dg 15) 0 2 3, pc (vi 19) 0 67 [dg 9, dg 15] 1, pv (bo .gtr (vi 19) (li 0)) 1], [3]⟩
def Ff112_94 (jj1 : List Value) := fs (Ff112_92 jj1) [(32, dg 9), (33, ps 2 3)]
def Rf112_95 (jj1 : List Value) : Rg := ⟨2, 20, 4, (Ff112_92 jj1), Bf112_77, [pl (dg 9) 0 3 0, pv (ps 2 3) 0], []⟩
def Bf112_96 := [rb 25 [vb 0, vs 1, vi 2, vb 3, vs 4, vi 5, vb 6, vs 7, vi 8, vb 9, vs 10, vi 11], bb 28 o6, bb 28 [vb 12, vs 13, vi 14, vb 9, vs 10, vi 11], bb 25 (d3 9)]
def Ff112_97 (jj1 : List Value) := fs (Ff112_94 jj1) [(16, li 3), (34, li 3)]
def Rf112_98 (jj1 : List Value) : Rg := ⟨1, 20, 4, (Ff112_94 jj1), Bf112_96, [pv (li 3) 0], []⟩
def Ff112_99 (jj1 : List Value) := fs (Ff112_92 jj1) [(16, li 3), (34, li 3)]
def Rf112_100 (jj1 : List Value) : Rg := ⟨1, 20, 4, (Ff112_92 jj1), Bf112_77, [pv (li 3) 0], []⟩
def Ff112_101 (jj1 : List Value) := fs (Lf112_13 jj1) [(17, lb false)]
def Rf112_102 (jj1 : List Value) : Rg := ⟨1, 18, 3, (Lf112_13 jj1), Bf112_15, [pv (lb false) 0], []⟩
def Ff112_103 (jj1 : List Value) := fs (Ff112_101 jj1) [(35, ig 12)]
def Rf112_104 (jj1 : List Value) : Rg := ⟨1, 18, 3, (Ff112_101 jj1), Bf112_15, [pl (ig 12) 0 2 0], []⟩
def Bf112_105 := [rb 25 [vb 0, vs 1, vi 2, vb 3, vs 4, vi 5, vb 6, vs 7, vi 8, vb 9, vs 10, vi 11], bb 28 (i6 12), bb 28 (i6 12)]
theorem span_q {eb : Nat → Bool} {eA : Nat → Option Addr} {en ec : Nat → Nat} {ex : Nat → Int} {q : Nat → Rat} {N : Nat} {w : World} {g0 : Nat} (hrow : w.heap[g0]? = some (.cells #[.bool (eb 0), .slice (eA 0) (en 0) (ec 0), .int .i64 (ex 0), .bool (eb 1), .slice (eA 1) (en 1) (ec 1), .int .i64 (ex 1), .bool (eb 2), .slice (eA 2) (en 2) (ec 2), .int .i64 (ex 2), .bool (eb 3), .slice (eA 3) (en 3) (ec 3), .int .i64 (ex 3)] 25 (0, 0)))
 (h : ∀ k, k < 4 → CQ w (.agg #[.bool (eb k), .slice (eA k) (en k) (ec k), .int .i64 (ex k)]) (q k) N) (hN : N ≤ 33554432) (hT : TB w) :
 Calls Tryz.prog 112 #[.slice (some ⟨g0, 0, none⟩) 4 4] w fun en' w' => ∃ i j, i < 4 ∧ j < 4 ∧ (∀ k, k < 4 → q i ≤ q k ∧ q k ≤ q j) ∧ en' = .returned (.agg #[.bool (eb i), .slice (eA i) (en i) (ec i), .int .i64 (ex i), .bool (eb j), .slice (eA j) (en j) (ec j), .int .i64 (ex j)]) ∧ BL w w' := by
 refine fn_enter2 (u := 64) (fn := Tryz.f112) Tryz.func112 rfl Ff112_0 [rb 25 [vb 0, vs 1, vi 2, vb 3, vs 4, vi 5, vb 6, vs 7, vi 8, vb 9, vs 10, vi 11]] [.bool (eb 0), .slice (eA 0) (en 0) (ec 0), .int .i64 (ex 0), .bool (eb 1), .slice (eA 1) (en 1) (ec 1), .int .i64 (ex 1), .bool (eb 2), .slice (eA 2) (en 2) (ec 2), .int .i64 (ex 2), .bool (eb 3), .slice (eA 3) (en 3) (ec 3), .int .i64 (ex 3)] (fun _ => g0) (by kernel_rfl) rfl rfl (by
  intro b x hx
  match b, hx with
  | 0, hx => injection hx with hx; subst hx; exact hrow
  | b + 1, hx => simp at hx) (fun a0 S0 r0 => ?_)
 refine wp_seq (rk Rf112_3 [] Ff112_1 Bf112_2 S0 r0 ?_)
 intro _ _ _ r1 S1
 refine wp_seq (rk Rf112_6 [.st 2 0 [vb 0, vs 1, vi 2, vb 0, vs 1, vi 2]] Ff112_4 Bf112_7 S1 r1 ?_)
 intro _ _ _ r2 S2
 refine wp_seq ?_
 refine wp_seq (rk Rf112_9 [] Ff112_8 Bf112_7 S2 r2 ?_)
 intro _ _ _ r3 S3
 refine wp_block ?_
 refine wp_loop_n (fun n a W => match n with | 3 => ∃ (jj1 : List Value) (i j : Nat) (g : Nat → Nat), BL w W ∧ St w (Lf112_10 jj1) Bf112_15 [.bool (eb 0), .slice (eA 0) (en 0) (ec 0), .int .i64 (ex 0), .bool (eb 1), .slice (eA 1) (en 1) (ec 1), .int .i64 (ex 1), .bool (eb 2), .slice (eA 2) (en 2) (ec 2), .int .i64 (ex 2), .bool (eb 3), .slice (eA 3) (en 3) (ec 3), .int .i64 (ex 3), .bool (eb i), .slice (eA i) (en i) (ec i), .int .i64 (ex i), .bool (eb j), .slice (eA j) (en j) (ec j), .int .i64 (ex j)] g a W ∧ (i < 4 ∧ j < 4 ∧ ∀ k, k < 1 → q i ≤ q k ∧ q k ≤ q j) | 2 => ∃ (jj1 : List Value) (i j : Nat) (g : Nat → Nat), BL w W ∧ St w (Lf112_11 jj1) Bf112_15 [.bool (eb 0), .slice (eA 0) (en 0) (ec 0), .int .i64 (ex 0), .bool (eb 1), .slice (eA 1) (en 1) (ec 1), .int .i64 (ex 1), .bool (eb 2), .slice (eA 2) (en 2) (ec 2), .int .i64 (ex 2), .bool (eb 3), .slice (eA 3) (en 3) (ec 3), .int .i64 (ex 3), .bool (eb i), .slice (eA i) (en i) (ec i), .int .i64 (ex i), .bool (eb j), .slice (eA j) (en j) (ec j), .int .i64 (ex j)] g a W ∧ (i < 4 ∧ j < 4 ∧ ∀ k, k < 2 → q i ≤ q k ∧ q k ≤ q j) | 1 => ∃ (jj1 : List Value) (i j : Nat) (g : Nat → Nat), BL w W ∧ St w (Lf112_12 jj1) Bf112_15 [.bool (eb 0), .slice (eA 0) (en 0) (ec 0), .int .i64 (ex 0), .bool (eb 1), .slice (eA 1) (en 1) (ec 1), .int .i64 (ex 1), .bool (eb 2), .slice (eA 2) (en 2) (ec 2), .int .i64 (ex 2), .bool (eb 3), .slice (eA 3) (en 3) (ec 3), .int .i64 (ex 3), .bool (eb i), .slice (eA i) (en i) (ec i), .int .i64 (ex i), .bool (eb j), .slice (eA j) (en j) (ec j), .int .i64 (ex j)] g a W ∧ (i < 4 ∧ j < 4 ∧ ∀ k, k < 3 → q i ≤ q k ∧ q k ≤ q j) | 0 => ∃ (jj1 : List Value) (i j : Nat) (g : Nat → Nat), BL w W ∧ St w (Lf112_13 jj1) Bf112_15 [.bool (eb 0), .slice (eA 0) (en 0) (ec 0), .int .i64 (ex 0), .bool (eb 1), .slice (eA 1) (en 1) (ec 1), .int .i64 (ex 1), .bool (eb 2), .slice (eA 2) (en 2) (ec 2), .int .i64 (ex 2), .bool (eb 3), .slice (eA 3) (en 3) (ec 3), .int .i64 (ex 3), .bool (eb i), .slice (eA i) (en i) (ec i), .int .i64 (ex i), .bool (eb j), .slice (eA j) (en j) (ec j), .int .i64 (ex j)] g a W ∧ (i < 4 ∧ j < 4 ∧ ∀ k, k < 4 → q i ≤ q k ∧ q k ≤ q j) | _ => False) (n := 3) ⟨jv S3 Jf112_14, 0, 0, _, r3.first, St.to S3 [0, 1, 2] (by kernel_rfl) (by kernel_rfl) (by decide) rfl, by omega, by omega, fun k hk => by obtain rfl : k = 0 := (by omega); exact ⟨Rat.le_refl, Rat.le_refl⟩⟩ ?_
 intro n a W hI
 match n, hI with
 | 3, hI =>
   obtain ⟨jj1, i, j, g4, b4, S4, hi, hj, hq⟩ := hI
   have r4 : Reach 64 w [W] W := .of_below b4
   refine wp_seq (rk (Rf112_17 jj1) [] (Ff112_16 jj1) Bf112_15 S4 r4 ?_)
   intro a5 g5 W5 r5 S5
   refine wp_seq ?_
   refine wp_cond_true (S5.cnd (by kernel_rfl)) ?_
   refine wp_skip ?_
   refine wp_seq ?_
   refine wp_block ?_
   refine wp_seq (rk (Rf112_20 jj1) [.st 3 0 (d3 3)] (Ff112_18 jj1) Bf112_21 S5 r5 ?_)
   intro a6 g6 W6 r6 S6
   refine wp_seq ?_
   refine wp_seq (rk (Rf112_23 jj1) [] (Ff112_22 jj1) Bf112_21 S6 r6 ?_)
   intro W7 g7 r7 _
   refine (cmp_q ((h 1 (by omega)).below r7.first) ((h i hi).below r7.first) (by omega) (tb hT r7)).mono ?_
   rintro _ V1 ⟨rfl, k1⟩
   refine ⟨[.int .i64 (cmpQ (q 1) (q i))], rfl, rfl, rfl, k1, ?_⟩
   intro a8 g8 W8 r8 S8
   refine wp_cond_split (t := decide ((cmpQ (q 1) (q i)) < 0)) (S8.cnd (by kernel_rfl)) (fun q1 => ?_) (fun q1 => ?_)
   · refine rk (Rf112_25 jj1) [.st 2 0 (d3 3)] (Ff112_24 jj1) Bf112_26 S8 r8 ?_
     intro a9 g9 W9 r9 S9
     refine wp_seq (rk (Rf112_28 jj1) [] (Ff112_27 jj1) Bf112_26 S9 r9 ?_)
     intro W10 g10 r10 _
     refine (cmp_q ((h 1 (by omega)).below r10.first) ((h j hj).below r10.first) (by omega) (tb hT r10)).mono ?_
     rintro _ V2 ⟨rfl, k2⟩
     refine ⟨[.int .i64 (cmpQ (q 1) (q j))], rfl, rfl, rfl, k2, ?_⟩
     intro a11 g11 W11 r11 S11
     refine wp_cond_split (t := decide ((cmpQ (q 1) (q j)) > 0)) (S11.cnd (by kernel_rfl)) (fun q2 => ?_) (fun q2 => ?_)
     · refine rk (Rf112_30 jj1) [.st 2 3 (d3 3)] (Ff112_29 jj1) Bf112_31 S11 r11 ?_
       intro a12 g12 W12 r12 S12
       refine rk (Rf112_33 jj1) [.mv (li 1)] (Ff112_32 jj1) Bf112_31 S12 r12 ?_
       intro a13 g13 W13 r13 S13
       exact ⟨2, by omega, jv S13 Jf112_14, 1, 1, _, r13.first, St.to S13 [0, 1, 2] (by kernel_rfl) (by kernel_rfl) (by decide) rfl, by omega, by omega, span_step hq q1 q2⟩
     · refine wp_skip ?_
       refine rk (Rf112_35 jj1) [.mv (li 1)] (Ff112_34 jj1) Bf112_26 S11 r11 ?_
       intro a12 g12 W12 r12 S12
       exact ⟨2, by omega, jv S12 Jf112_14, 1, j, _, r12.first, St.to S12 [0, 1, 2] (by kernel_rfl) (by kernel_rfl) (by decide) rfl, by omega, by omega, span_step hq q1 q2⟩
   · refine wp_skip ?_
     refine wp_seq (rk (Rf112_37 jj1) [] (Ff112_36 jj1) Bf112_21 S8 r8 ?_)
     intro W9 g9 r9 _
     refine (cmp_q ((h 1 (by omega)).below r9.first) ((h j hj).below r9.first) (by omega) (tb hT r9)).mono ?_
     rintro _ V3 ⟨rfl, k3⟩
     refine ⟨[.int .i64 (cmpQ (q 1) (q j))], rfl, rfl, rfl, k3, ?_⟩
     intro a10 g10 W10 r10 S10
     refine wp_cond_split (t := decide ((cmpQ (q 1) (q j)) > 0)) (S10.cnd (by kernel_rfl)) (fun q3 => ?_) (fun q3 => ?_)
     · refine rk (Rf112_39 jj1) [.st 2 3 (d3 3)] (Ff112_38 jj1) Bf112_40 S10 r10 ?_
       intro a11 g11 W11 r11 S11
       refine rk (Rf112_42 jj1) [.mv (li 1)] (Ff112_41 jj1) Bf112_40 S11 r11 ?_
       intro a12 g12 W12 r12 S12
       exact ⟨2, by omega, jv S12 Jf112_14, i, 1, _, r12.first, St.to S12 [0, 1, 2] (by kernel_rfl) (by kernel_rfl) (by decide) rfl, by omega, by omega, span_step hq q1 q3⟩
     · refine wp_skip ?_
       refine rk (Rf112_44 jj1) [.mv (li 1)] (Ff112_43 jj1) Bf112_21 S10 r10 ?_
       intro a11 g11 W11 r11 S11
       exact ⟨2, by omega, jv S11 Jf112_14, i, j, _, r11.first, St.to S11 [0, 1, 2] (by kernel_rfl) (by kernel_rfl) (by decide) rfl, by omega, by omega, span_step hq q1 q3⟩
 | 2, hI =>
   obtain ⟨jj1, i, j, g4, b4, S4, hi, hj, hq⟩ := hI
   have r4 : Reach 64 w [W] W := .of_below b4
   refine wp_seq (rk (Rf112_46 jj1) [] (Ff112_45 jj1) Bf112_15 S4 r4 ?_)
   intro a5 g5 W5 r5 S5
   refine wp_seq ?_
   refine wp_cond_true (S5.cnd (by kernel_rfl)) ?_
   refine wp_skip ?_
   refine wp_seq ?_
   refine wp_block ?_
   refine wp_seq (rk (Rf112_48 jj1) [.st 3 0 (d3 6)] (Ff112_47 jj1) Bf112_49 S5 r5 ?_)
   intro a6 g6 W6 r6 S6
   refine wp_seq ?_
   refine wp_seq (rk (Rf112_51 jj1) [] (Ff112_50 jj1) Bf112_49 S6 r6 ?_)
   intro W7 g7 r7 _
   refine (cmp_q ((h 2 (by omega)).below r7.first) ((h i hi).below r7.first) (by omega) (tb hT r7)).mono ?_
   rintro _ V4 ⟨rfl, k4⟩
   refine ⟨[.int .i64 (cmpQ (q 2) (q i))], rfl, rfl, rfl, k4, ?_⟩
   intro a8 g8 W8 r8 S8
   refine wp_cond_split (t := decide ((cmpQ (q 2) (q i)) < 0)) (S8.cnd (by kernel_rfl)) (fun q1 => ?_) (fun q1 => ?_)
   · refine rk (Rf112_53 jj1) [.st 2 0 (d3 6)] (Ff112_52 jj1) Bf112_54 S8 r8 ?_
     intro a9 g9 W9 r9 S9
     refine wp_seq (rk (Rf112_56 jj1) [] (Ff112_55 jj1) Bf112_54 S9 r9 ?_)
     intro W10 g10 r10 _
     refine (cmp_q ((h 2 (by omega)).below r10.first) ((h j hj).below r10.first) (by omega) (tb hT r10)).mono ?_
     rintro _ V5 ⟨rfl, k5⟩
     refine ⟨[.int .i64 (cmpQ (q 2) (q j))], rfl, rfl, rfl, k5, ?_⟩
     intro a11 g11 W11 r11 S11
     refine wp_cond_split (t := decide ((cmpQ (q 2) (q j)) > 0)) (S11.cnd (by kernel_rfl)) (fun q2 => ?_) (fun q2 => ?_)
     · refine rk (Rf112_58 jj1) [.st 2 3 (d3 6)] (Ff112_57 jj1) Bf112_59 S11 r11 ?_
       intro a12 g12 W12 r12 S12
       refine rk (Rf112_61 jj1) [.mv (li 2)] (Ff112_60 jj1) Bf112_59 S12 r12 ?_
       intro a13 g13 W13 r13 S13
       exact ⟨1, by omega, jv S13 Jf112_14, 2, 2, _, r13.first, St.to S13 [0, 1, 2] (by kernel_rfl) (by kernel_rfl) (by decide) rfl, by omega, by omega, span_step hq q1 q2⟩
     · refine wp_skip ?_
       refine rk (Rf112_63 jj1) [.mv (li 2)] (Ff112_62 jj1) Bf112_54 S11 r11 ?_
       intro a12 g12 W12 r12 S12
       exact ⟨1, by omega, jv S12 Jf112_14, 2, j, _, r12.first, St.to S12 [0, 1, 2] (by kernel_rfl) (by kernel_rfl) (by decide) rfl, by omega, by omega, span_step hq q1 q2⟩
   · refine wp_skip ?_
     refine wp_seq (rk (Rf112_65 jj1) [] (Ff112_64 jj1) Bf112_49 S8 r8 ?_)
     intro W9 g9 r9 _
     refine (cmp_q ((h 2 (by omega)).below r9.first) ((h j hj).below r9.first) (by omega) (tb hT r9)).mono ?_
     rintro _ V6 ⟨rfl, k6⟩
     refine ⟨[.int .i64 (cmpQ (q 2) (q j))], rfl, rfl, rfl, k6, ?_⟩
     intro a10 g10 W10 r10 S10
     refine wp_cond_split (t := decide ((cmpQ (q 2) (q j)) > 0)) (S10.cnd (by kernel_rfl)) (fun q3 => ?_) (fun q3 => ?_)
     · refine rk (Rf112_67 jj1) [.st 2 3 (d3 6)] (Ff112_66 jj1) Bf112_68 S10 r10 ?_
       intro a11 g11 W11 r11 S11
       refine rk (Rf112_70 jj1) [.mv (li 2)] (Ff112_69 jj1) Bf112_68 S11 r11 ?_
       intro a12 g12 W12 r12 S12
       exact ⟨1, by omega, jv S12 Jf112_14, i, 2, _, r12.first, St.to S12 [0, 1, 2] (by kernel_rfl) (by kernel_rfl) (by decide) rfl, by omega, by omega, span_step hq q1 q3⟩
     · refine wp_skip ?_
       refine rk (Rf112_72 jj1) [.mv (li 2)] (Ff112_71 jj1) Bf112_49 S10 r10 ?_
       intro a11 g11 W11 r11 S11
       exact ⟨1, by omega, jv S11 Jf112_14, i, j, _, r11.first, St.to S11 [0, 1, 2] (by kernel_rfl) (by kernel_rfl) (by decide) rfl, by omega, by omega, span_step hq q1 q3⟩
 | 1, hI =>
   obtain ⟨jj1, i, j, g4, b4, S4, hi, hj, hq⟩ := hI
   have r4 : Reach 64 w [W] W := .of_below b4
   refine wp_seq (rk (Rf112_74 jj1) [] (Ff112_73 jj1) Bf112_15 S4 r4 ?_)
   intro a5 g5 W5 r5 S5
   refine wp_seq ?_
   refine wp_cond_true (S5.cnd (by kernel_rfl)) ?_
   refine wp_skip ?_
   refine wp_seq ?_
   refine wp_block ?_
   refine wp_seq (rk (Rf112_76 jj1) [.st 3 0 (d3 9)] (Ff112_75 jj1) Bf112_77 S5 r5 ?_)
   intro a6 g6 W6 r6 S6
   refine wp_seq ?_
   refine wp_seq (rk (Rf112_79 jj1) [] (Ff112_78 jj1) Bf112_77 S6 r6 ?_)
   intro W7 g7 r7 _
   refine (cmp_q ((h 3 (by omega)).below r7.first) ((h i hi).below r7.first) (by omega) (tb hT r7)).mono ?_
   rintro _ V7 ⟨rfl, k7⟩
   refine ⟨[.int .i64 (cmpQ (q 3) (q i))], rfl, rfl, rfl, k7, ?_⟩
   intro a8 g8 W8 r8 S8
   refine wp_cond_split (t := decide ((cmpQ (q 3) (q i)) < 0)) (S8.cnd (by kernel_rfl)) (fun q1 => ?_) (fun q1 => ?_)
   · refine rk (Rf112_81 jj1) [.st 2 0 (d3 9)] (Ff112_80 jj1) Bf112_82 S8 r8 ?_
     intro a9 g9 W9 r9 S9
     refine wp_seq (rk (Rf112_84 jj1) [] (Ff112_83 jj1) Bf112_82 S9 r9 ?_)
     intro W10 g10 r10 _
     refine (cmp_q ((h 3 (by omega)).below r10.first) ((h j hj).below r10.first) (by omega) (tb hT r10)).mono ?_
     rintro _ V8 ⟨rfl, k8⟩
     refine ⟨[.int .i64 (cmpQ (q 3) (q j))], rfl, rfl, rfl, k8, ?_⟩
     intro a11 g11 W11 r11 S11
     refine wp_cond_split (t := decide ((cmpQ (q 3) (q j)) > 0)) (S11.cnd (by kernel_rfl)) (fun q2 => ?_) (fun q2 => ?_)
     · refine rk (Rf112_86 jj1) [.st 2 3 (d3 9)] (Ff112_85 jj1) Bf112_87 S11 r11 ?_
       intro a12 g12 W12 r12 S12
       refine rk (Rf112_89 jj1) [.mv (li 3)] (Ff112_88 jj1) Bf112_87 S12 r12 ?_
       intro a13 g13 W13 r13 S13
       exact ⟨0, by omega, jv S13 Jf112_14, 3, 3, _, r13.first, St.to S13 [0, 1, 2] (by kernel_rfl) (by kernel_rfl) (by decide) rfl, by omega, by omega, span_step hq q1 q2⟩
     · refine wp_skip ?_
       refine rk (Rf112_91 jj1) [.mv (li 3)] (Ff112_90 jj1) Bf112_82 S11 r11 ?_
       intro a12 g12 W12 r12 S12
       exact ⟨0, by omega, jv S12 Jf112_14, 3, j, _, r12.first, St.to S12 [0, 1, 2] (by kernel_rfl) (by kernel_rfl) (by decide) rfl, by omega, by omega, span_step hq q1 q2⟩
   · refine wp_skip ?_
     refine wp_seq (rk (Rf112_93 jj1) [] (Ff112_92 jj1) Bf112_77 S8 r8 ?_)
     intro W9 g9 r9 _
     refine (cmp_q ((h 3 (by omega)).below r9.first) ((h j hj).below r9.first) (by omega) (tb hT r9)).mono ?_
     rintro _ V9 ⟨rfl, k9⟩
     refine ⟨[.int .i64 (cmpQ (q 3) (q j))], rfl, rfl, rfl, k9, ?_⟩
     intro a10 g10 W10 r10 S10
     refine wp_cond_split (t := decide ((cmpQ (q 3) (q j)) > 0)) (S10.cnd (by kernel_rfl)) (fun q3 => ?_) (fun q3 => ?_)
     · refine rk (Rf112_95 jj1) [.st 2 3 (d3 9)] (Ff112_94 jj1) Bf112_96 S10 r10 ?_
       intro a11 g11 W11 r11 S11
       refine rk (Rf112_98 jj1) [.mv (li 3)] (Ff112_97 jj1) Bf112_96 S11 r11 ?_
       intro a12 g12 W12 r12 S12
       exact ⟨0, by omega, jv S12 Jf112_14, i, 3, _, r12.first, St.to S12 [0, 1, 2] (by kernel_rfl) (by kernel_rfl) (by decide) rfl, by omega, by omega, span_step hq q1 q3⟩
     · refine wp_skip ?_
       refine rk (Rf112_100 jj1) [.mv (li 3)] (Ff112_99 jj1) Bf112_77 S10 r10 ?_
       intro a11 g11 W11 r11 S11
       exact ⟨0, by omega, jv S11 Jf112_14, i, j, _, r11.first, St.to S11 [0, 1, 2] (by kernel_rfl) (by kernel_rfl) (by decide) rfl, by omega, by omega, span_step hq q1 q3⟩
 | 0, hI =>
   obtain ⟨jj1, i, j, g4, b4, S4, hi, hj, hq⟩ := hI
   have r4 : Reach 64 w [W] W := .of_below b4
   refine wp_seq (rk (Rf112_102 jj1) [] (Ff112_101 jj1) Bf112_15 S4 r4 ?_)
   intro a5 g5 W5 r5 S5
   refine wp_seq ?_
   refine wp_cond_false (S5.cnd (by kernel_rfl)) ?_
   refine wp_exit (then_exit (then_exit (exit_in ?_)))
   refine wp_seq (rk (Rf112_104 jj1) [.st 1 0 (i6 12)] (Ff112_103 jj1) Bf112_105 S5 r5 ?_)
   intro a6 g6 W6 r6 S6
   exact rt S6 [.agg #[.bool (eb i), .slice (eA i) (en i) (ec i), .int .i64 (ex i), .bool (eb j), .slice (eA j) (en j) (ec j), .int .i64 (ex j)]] (⟨i, j, hi, hj, hq, rfl, r6.first⟩)
def Fg70_0 := [ig 0, vi 6, U, U, U, U, U, U, U, U, U, U, U, U]
def Fg70_1 := fs Fg70_0 [(2, ps 0 0), (4, ps 1 0)]
def Bg70_2 := [bb 28 (i6 0), bb 28 o6]
def Rg70_3 : Rg := ⟨2, 7, 0, Fg70_0, Bg70_2, [pa 0 0, pa 1 0], []⟩
def Fg70_4 := fs Fg70_1 [(5, ps 0 0), (6, dg 0), (7, vi 6), (8, dg 7), (9, ps 0 3), (10, dg 3), (11, vi 6), (12, dg 10), (13, ig 7)]
def Rg70_5 : Rg := ⟨9, 7, 2, Fg70_1, Bg70_2, [pv (ps 0 0) 0, pl (dg 0) 0 0 0, pv (vi 6) 0, pc (dg 7) 0 111 [dg 0, vi 6, lb false] 3, pv (ps 0 3) 0, pl (dg 3) 0 0 3, pv (vi 6) 0, pc (dg 10) 1 111 [dg 3, vi 6, lb true] 3, pv (ig 7) 2], [3, 7]⟩
def Bg70_6 := [bb 28 (i6 0), bb 28 (i6 7)]
theorem trim_q {v : Value} {a b : Rat} {N p : Nat} {w : World} (h : CI w v a b N) (hN : N ≤ 67108864) (hp : 1 ≤ p) (hp2 : p ≤ 67108864) (hT : TB w) :
 Calls Tryz.prog 70 #[v, .int .i64 (p : Int)] w fun en w' => ∃ v' l u, en = .returned v' ∧ PI w' w.heap.size v' l u (N + 1) ∧ CutOf false a l (ep p) ∧ CutOf true b u (ep p) ∧ Short p l ∧ Short p u ∧ BL w w' := by
 obtain ⟨b0, A0, n0, c0, x0, d0, B0, m0, e0, y0, rfl⟩ := h.ex
 refine fn_enter (u := 64) (fn := Tryz.f70) Tryz.func70 rfl Fg70_0 [.bool b0, .slice A0 n0 c0, .int .i64 x0, .bool d0, .slice B0 m0 e0, .int .i64 y0, .int .i64 (p : Int)] (by kernel_rfl) rfl (fun a0 S0 r0 => ?_)
 refine wp_seq (rk Rg70_3 [] Fg70_1 Bg70_2 S0 r0 ?_)
 intro _ _ _ r1 S1
 refine wp_seq (rk Rg70_5 [.st 1 0 (i6 7)] Fg70_4 Bg70_6 S1 r1 ?_)
 intro _ _ r2 _
 refine (cut_q (h.below r2.first).lo hN hp hp2 (tb hT r2)).mono ?_
 rintro _ V1 ⟨v, y1, rfl, h1, e1, s1, z1, k1⟩
 obtain ⟨b1, A1, n1, c1, x1, rfl⟩ := h1.ex
 replace h1 := h1.lower r2.fs
 refine ⟨[.bool b1, .slice A1 n1 c1, .int .i64 x1], rfl, rfl, rfl, k1, ?_⟩
 intro _ _ r3 _
 refine (cut_q (h.below r3.first).hi hN hp hp2 (tb hT r3)).mono ?_
 rintro _ V2 ⟨v, y2, rfl, h2, e2, s2, z2, k2⟩
 obtain ⟨b2, A2, n2, c2, x2, rfl⟩ := h2.ex
 replace h2 := h2.lower r3.fs
 refine ⟨[.bool b2, .slice A2 n2 c2, .int .i64 x2], rfl, rfl, rfl, k2, ?_⟩
 intro _ _ _ r4 S4
 exact rt S4 [.agg #[.bool b1, .slice A1 n1 c1, .int .i64 x1, .bool b2, .slice A2 n2 c2, .int .i64 x2]] (⟨_, _, _, rfl, .mk (h1.lat (r4.at_ 0 _ rfl)) (h2.lat (r4.at_ 1 _ rfl)), e1, e2, s1, s2, r4.first⟩)
def Fg117_0 := [ig 0, ig 6, vi 12, U, U, U, U, U, U, U, U, U, U, U, U, U, U, U, U, U]
def Fg117_1 := fs Fg117_0 [(3, ps 0 0), (4, ps 1 0), (6, ps 2 0)]
def Bg117_2 := [bb 28 (i6 0), bb 28 (i6 6), bb 28 o6]
def Rg117_3 : Rg := ⟨3, 13, 0, Fg117_0, Bg117_2, [pa 0 0, pa 1 0, pa 2 0], []⟩
def Fg117_4 := fs Fg117_1 [(7, ps 0 0), (8, dg 0), (9, ps 1 0), (10, dg 6), (11, dg 13), (12, ps 0 3), (13, dg 3), (14, ps 1 3), (15, dg 9), (16, dg 16), (17, ig 13), (18, vi 12), (19, ig 19)]
def Rg117_5 : Rg := ⟨13, 13, 3, Fg117_1, Bg117_2, [pv (ps 0 0) 0, pl (dg 0) 0 0 0, pv (ps 1 0) 0, pl (dg 6) 0 1 0, pc (dg 13) 0 60 [dg 0, dg 6] 3, pv (ps 0 3) 0, pl (dg 3) 0 0 3, pv (ps 1 3) 0, pl (dg 9) 0 1 3, pc (dg 16) 1 60 [dg 3, dg 9] 3, pv (ig 13) 2, pv (vi 12) 0, pc (ig 19) 2 70 [ig 13, vi 12] 6], [4, 9, 12]⟩
def Bg117_6 := [bb 28 (i6 0), bb 28 (i6 6), bb 28 (i6 19)]
theorem plus_q {u v : Value} {a b c d : Rat} {N M p : Nat} {w : World} (h : CI w u a b N) (h' : CI w v c d M) (hN : N + M ≤ 33554431) (hp : 1 ≤ p) (hp2 : p ≤ 67108864) (hT : TB w) :
 Calls Tryz.prog 117 #[u, v, .int .i64 (p : Int)] w fun en w' => ∃ v' l u, en = .returned v' ∧ PI w' w.heap.size v' l u (2 * (N + M) + 2) ∧ CutOf false (a + c) l (ep p) ∧ CutOf true (b + d) u (ep p) ∧ Short p l ∧ Short p u ∧ BL w w' := by
 obtain ⟨b0, A0, n0, c0, x0, d0, B0, m0, e0, y0, rfl⟩ := h.ex
 obtain ⟨b9, A9, n9, c9, x9, d9, B9, m9, e9, y9, rfl⟩ := h'.ex
 refine fn_enter (u := 64) (fn := Tryz.f117) Tryz.func117 rfl Fg117_0 [.bool b0, .slice A0 n0 c0, .int .i64 x0, .bool d0, .slice B0 m0 e0, .int .i64 y0, .bool b9, .slice A9 n9 c9, .int .i64 x9, .bool d9, .slice B9 m9 e9, .int .i64 y9, .int .i64 (p : Int)] (by kernel_rfl) rfl (fun a0 S0 r0 => ?_)
 refine wp_seq (rk Rg117_3 [] Fg117_1 Bg117_2 S0 r0 ?_)
 intro _ _ _ r1 S1
 refine wp_seq (rk Rg117_5 [.st 2 0 (i6 19)] Fg117_4 Bg117_6 S1 r1 ?_)
 intro _ _ r2 _
 refine (add_q (h.below r2.first).lo (h'.below r2.first).lo (by omega) (tb hT r2)).mono ?_
 rintro _ V1 ⟨v, rfl, h1, k1⟩
 obtain ⟨b1, A1, n1, c1, x1, rfl⟩ := h1.ex
 replace h1 := h1.lower r2.fs
 refine ⟨[.bool b1, .slice A1 n1 c1, .int .i64 x1], rfl, rfl, rfl, k1, ?_⟩
 intro _ _ r3 _
 refine (add_q (h.below r3.first).hi (h'.below r3.first).hi (by omega) (tb hT r3)).mono ?_
 rintro _ V2 ⟨v, rfl, h2, k2⟩
 obtain ⟨b2, A2, n2, c2, x2, rfl⟩ := h2.ex
 replace h2 := h2.lower r3.fs
 refine ⟨[.bool b2, .slice A2 n2 c2, .int .i64 x2], rfl, rfl, rfl, k2, ?_⟩
 intro _ _ r4 _
 refine (trim_q (PI.mk (h1.lat (r4.at_ 0 _ rfl)) (h2.lat (r4.at_ 1 _ rfl))).c (by omega) hp hp2 (tb hT r4)).mono ?_
 rintro _ V3 ⟨v, l3, u3, rfl, h3, el3, eu3, sl3, su3, k3⟩
 obtain ⟨b3, A3, n3, c3, x3, d3, B3, m3, e3, y3, rfl⟩ := h3.ex
 replace h3 := h3.lower r4.fs
 refine ⟨[.bool b3, .slice A3 n3 c3, .int .i64 x3, .bool d3, .slice B3 m3 e3, .int .i64 y3], rfl, rfl, rfl, k3, ?_⟩
 intro _ _ _ r5 S5
 exact rt S5 [.agg #[.bool b3, .slice A3 n3 c3, .int .i64 x3, .bool d3, .slice B3 m3 e3, .int .i64 y3]] (⟨_, _, _, rfl, (h3.lat (r5.at_ 2 _ rfl)), el3, eu3, sl3, su3, r5.first⟩)
def Fg81_0 := [ig 0, ig 6, vi 12, U, U, U, U, U, U, U, U, U]
def Fg81_1 := fs Fg81_0 [(3, ps 0 0), (4, ps 1 0), (6, ps 2 0)]
def Bg81_2 := [bb 28 (i6 0), bb 28 (i6 6), bb 28 o6]
def Rg81_3 : Rg := ⟨3, 13, 0, Fg81_0, Bg81_2, [pa 0 0, pa 1 0, pa 2 0], []⟩
def Fg81_4 := fs Fg81_1 [(7, ig 0), (8, ig 6), (9, ig 13), (10, vi 12), (11, ig 19)]
def Rg81_5 : Rg := ⟨5, 13, 3, Fg81_1, Bg81_2, [pl (ig 0) 0 0 0, pl (ig 6) 0 1 0, pc (ig 13) 0 85 [ig 6] 6, pv (vi 12) 0, pc (ig 19) 1 117 [ig 0, ig 13, vi 12] 6], [2, 4]⟩
def Bg81_6 := [bb 28 (i6 0), bb 28 (i6 6), bb 28 (i6 19)]
theorem less_q {u v : Value} {a b c d : Rat} {N M p : Nat} {w : World} (h : CI w u a b N) (h' : CI w v c d M) (hN : N + M ≤ 33554431) (hp : 1 ≤ p) (hp2 : p ≤ 67108864) (hT : TB w) :
 Calls Tryz.prog 81 #[u, v, .int .i64 (p : Int)] w fun en w' => ∃ v' l u, en = .returned v' ∧ PI w' w.heap.size v' l u (2 * (N + M) + 2) ∧ CutOf false (a + -d) l (ep p) ∧ CutOf true (b + -c) u (ep p) ∧ Short p l ∧ Short p u ∧ BL w w' := by
 obtain ⟨b0, A0, n0, c0, x0, d0, B0, m0, e0, y0, rfl⟩ := h.ex
 obtain ⟨b9, A9, n9, c9, x9, d9, B9, m9, e9, y9, rfl⟩ := h'.ex
 refine fn_enter (u := 64) (fn := Tryz.f81) Tryz.func81 rfl Fg81_0 [.bool b0, .slice A0 n0 c0, .int .i64 x0, .bool d0, .slice B0 m0 e0, .int .i64 y0, .bool b9, .slice A9 n9 c9, .int .i64 x9, .bool d9, .slice B9 m9 e9, .int .i64 y9, .int .i64 (p : Int)] (by kernel_rfl) rfl (fun a0 S0 r0 => ?_)
 refine wp_seq (rk Rg81_3 [] Fg81_1 Bg81_2 S0 r0 ?_)
 intro _ _ _ r1 S1
 refine wp_seq (rk Rg81_5 [.st 2 0 (i6 19)] Fg81_4 Bg81_6 S1 r1 ?_)
 intro _ _ r2 _
 refine (turn_q (h'.below r2.first) (by omega) (tb hT r2)).mono ?_
 rintro _ V1 ⟨v, rfl, h1, k1⟩
 obtain ⟨b1, A1, n1, c1, x1, d1, B1, m1, e1, y1, rfl⟩ := h1.ex
 replace h1 := h1.lower r2.fs
 refine ⟨[.bool b1, .slice A1 n1 c1, .int .i64 x1, .bool d1, .slice B1 m1 e1, .int .i64 y1], rfl, rfl, rfl, k1, ?_⟩
 intro _ _ r3 _
 refine (plus_q (h.below r3.first) (h1.lat (r3.at_ 0 _ rfl)).c (by omega) hp hp2 (tb hT r3)).mono ?_
 rintro _ V2 ⟨v, l2, u2, rfl, h2, el2, eu2, sl2, su2, k2⟩
 obtain ⟨b2, A2, n2, c2, x2, d2, B2, m2, e2, y2, rfl⟩ := h2.ex
 replace h2 := h2.lower r3.fs
 refine ⟨[.bool b2, .slice A2 n2 c2, .int .i64 x2, .bool d2, .slice B2 m2 e2, .int .i64 y2], rfl, rfl, rfl, k2, ?_⟩
 intro _ _ _ r4 S4
 exact rt S4 [.agg #[.bool b2, .slice A2 n2 c2, .int .i64 x2, .bool d2, .slice B2 m2 e2, .int .i64 y2]] (⟨_, _, _, rfl, (h2.lat (r4.at_ 1 _ rfl)), el2, eu2, sl2, su2, r4.first⟩)
def Four (q : Nat → Rat) (l u : Rat) : Prop := ∃ i j, i < 4 ∧ j < 4 ∧ (∀ k, k < 4 → q i ≤ q k ∧ q k ≤ q j) ∧ l = q i ∧ u = q j
def mul4 (a b c d : Rat) : Nat → Rat | 0 => a * c | 1 => a * d | 2 => b * c | _ => b * d
theorem four_of {p : Nat → Prop} (h0 : p 0) (h1 : p 1) (h2 : p 2) (h3 : p 3) : ∀ k, k < 4 → p k := fun k hk => match k, hk with | 0, _ => h0 | 1, _ => h1 | 2, _ => h2 | 3, _ => h3 | k + 4, h => absurd h (by omega)
def Fg82_0 := [ig 0, ig 6, vi 12, U, U, U, U, U, U, U, U, U, U, U, U, U, U, U, U, U, U, U, U, U, U, U, U, U, U, U, U]
def Fg82_1 := fs Fg82_0 [(3, ps 0 0), (4, ps 1 0), (6, ps 2 0)]
def Bg82_2 := [bb 28 (i6 0), bb 28 (i6 6), bb 28 o6]
def Rg82_3 : Rg := ⟨3, 13, 0, Fg82_0, Bg82_2, [pa 0 0, pa 1 0, pa 2 0], []⟩
def Fg82_4 := fs Fg82_1 [(7, ps 0 0), (8, dg 0), (9, ps 1 0), (10, dg 6), (11, dg 13), (12, ps 0 0), (13, dg 0), (14, ps 1 3), (15, dg 9), (16, dg 16), (17, ps 0 3), (18, dg 3), (19, ps 1 0), (20, dg 6), (21, dg 19), (22, ps 0 3), (23, dg 3), (24, ps 1 3), (25, dg 9), (26, dg 22), (27, osl (ps 3 0) 4), (28, ig 25), (29, vi 12), (30, ig 31)]
def Bg82_5 := [bb 28 (i6 0), bb 28 (i6 6), bb 28 o6, bb 25 [vb 13, vs 14, vi 15, vb 16, vs 17, vi 18, vb 19, vs 20, vi 21, vb 22, vs 23, vi 24]]
def Rg82_6 : Rg := ⟨24, 13, 3, Fg82_1, Bg82_5, [pv (ps 0 0) 0, pl (dg 0) 0 0 0, pv (ps 1 0) 0, pl (dg 6) 0 1 0, pc (dg 13) 0 118 [dg 0, dg 6] 3, pv (ps 0 0) 0, pl (dg 0) 0 0 0, pv (ps 1 3) 0, pl (dg 9) 0 1 3, pc (dg 16) 1 118 [dg 0, dg 9] 3, pv (ps 0 3) 0, pl (dg 3) 0 0 3, pv (ps 1 0) 0, pl (dg 6) 0 1 0, pc (dg 19) 2 118 [dg 3, dg 6] 3, pv (ps 0 3) 0, pl (dg 3) 0 0 3, pv (ps 1 3) 0, pl (dg 9) 0 1 3, pc (dg 22) 3 118 [dg 3, dg 9] 3, ⟨osl (ps 3 0) 4, 4, [3], .al 3, osl (ps 3 0) 4⟩, ⟨ig 25, 4, [], .cl 4 112 [osl (ps 3 0) 4] 6 [3], ig 25⟩, pv (vi 12) 0, pc (ig 31) 5 70 [ig 25, vi 12] 6], [4, 9, 14, 19, 21, 23]⟩
def Bg82_7 := [bb 28 (i6 0), bb 28 (i6 6), bb 28 (i6 31), bb 25 [vb 13, vs 14, vi 15, vb 16, vs 17, vi 18, vb 19, vs 20, vi 21, vb 22, vs 23, vi 24]]
theorem times_q {u v : Value} {a b c d : Rat} {N M p : Nat} {w : World} (h : CI w u a b N) (h' : CI w v c d M) (hN : N + M ≤ 33554431) (hp : 1 ≤ p) (hp2 : p ≤ 67108864) (hT : TB w) :
 Calls Tryz.prog 82 #[u, v, .int .i64 (p : Int)] w fun en w' => ∃ v' l u, en = .returned v' ∧ PI w' w.heap.size v' l u (N + M + 1) ∧ (∃ x y, Four (mul4 a b c d) x y ∧ CutOf false x l (ep p) ∧ CutOf true y u (ep p)) ∧ Short p l ∧ Short p u ∧ BL w w' := by
 obtain ⟨b0, A0, n0, c0, x0, d0, B0, m0, e0, y0, rfl⟩ := h.ex
 obtain ⟨b9, A9, n9, c9, x9, d9, B9, m9, e9, y9, rfl⟩ := h'.ex
 refine fn_enter (u := 64) (fn := Tryz.f82) Tryz.func82 rfl Fg82_0 [.bool b0, .slice A0 n0 c0, .int .i64 x0, .bool d0, .slice B0 m0 e0, .int .i64 y0, .bool b9, .slice A9 n9 c9, .int .i64 x9, .bool d9, .slice B9 m9 e9, .int .i64 y9, .int .i64 (p : Int)] (by kernel_rfl) rfl (fun a0 S0 r0 => ?_)
 refine wp_seq (rk Rg82_3 [] Fg82_1 Bg82_2 S0 r0 ?_)
 intro _ _ _ r1 S1
 refine wp_seq (rk Rg82_6 [.st 2 0 (i6 31)] Fg82_4 Bg82_7 S1 r1 ?_)
 intro _ _ r2 _
 refine (mul_q (h.below r2.first).lo (h'.below r2.first).lo (by omega) (by omega) (tb hT r2)).mono ?_
 rintro _ V1 ⟨v, rfl, h1, k1⟩
 obtain ⟨b1, A1, n1, c1, x1, rfl⟩ := h1.ex
 replace h1 := h1.lower r2.fs
 refine ⟨[.bool b1, .slice A1 n1 c1, .int .i64 x1], rfl, rfl, rfl, k1, ?_⟩
 intro _ _ r3 _
 refine (mul_q (h.below r3.first).lo (h'.below r3.first).hi (by omega) (by omega) (tb hT r3)).mono ?_
 rintro _ V2 ⟨v, rfl, h2, k2⟩
 obtain ⟨b2, A2, n2, c2, x2, rfl⟩ := h2.ex
 replace h2 := h2.lower r3.fs
 refine ⟨[.bool b2, .slice A2 n2 c2, .int .i64 x2], rfl, rfl, rfl, k2, ?_⟩
 intro _ _ r4 _
 refine (mul_q (h.below r4.first).hi (h'.below r4.first).lo (by omega) (by omega) (tb hT r4)).mono ?_
 rintro _ V3 ⟨v, rfl, h3, k3⟩
 obtain ⟨b3, A3, n3, c3, x3, rfl⟩ := h3.ex
 replace h3 := h3.lower r4.fs
 refine ⟨[.bool b3, .slice A3 n3 c3, .int .i64 x3], rfl, rfl, rfl, k3, ?_⟩
 intro _ _ r5 _
 refine (mul_q (h.below r5.first).hi (h'.below r5.first).hi (by omega) (by omega) (tb hT r5)).mono ?_
 rintro _ V4 ⟨v, rfl, h4, k4⟩
 obtain ⟨b4, A4, n4, c4, x4, rfl⟩ := h4.ex
 replace h4 := h4.lower r5.fs
 refine ⟨[.bool b4, .slice A4 n4 c4, .int .i64 x4], rfl, rfl, rfl, k4, ?_⟩
 intro W6 g6 r6 q6
 refine (span_q (eb := (fun | 0 => b1 | 1 => b2 | 2 => b3 | _ => b4)) (eA := (fun | 0 => A1 | 1 => A2 | 2 => A3 | _ => A4)) (en := (fun | 0 => n1 | 1 => n2 | 2 => n3 | _ => n4)) (ec := (fun | 0 => c1 | 1 => c2 | 2 => c3 | _ => c4)) (ex := (fun | 0 => x1 | 1 => x2 | 2 => x3 | _ => x4)) (q := mul4 a b c d) (g0 := g6 3) (N := N + M) (q6 3 (by decide) _ rfl) (four_of (h1.lat (r6.at_ 0 _ rfl)).c (h2.lat (r6.at_ 1 _ rfl)).c (h3.lat (r6.at_ 2 _ rfl)).c (h4.lat (r6.at_ 3 _ rfl)).c) (by omega) (tb hT r6)).mono ?_
 rintro _ V5 ⟨i, j, hi, hj, hq, rfl, k5⟩
 refine ⟨[.bool ((fun | 0 => b1 | 1 => b2 | 2 => b3 | _ => b4) i), .slice ((fun | 0 => A1 | 1 => A2 | 2 => A3 | _ => A4) i) ((fun | 0 => n1 | 1 => n2 | 2 => n3 | _ => n4) i) ((fun | 0 => c1 | 1 => c2 | 2 => c3 | _ => c4) i), .int .i64 ((fun | 0 => x1 | 1 => x2 | 2 => x3 | _ => x4) i), .bool ((fun | 0 => b1 | 1 => b2 | 2 => b3 | _ => b4) j), .slice ((fun | 0 => A1 | 1 => A2 | 2 => A3 | _ => A4) j) ((fun | 0 => n1 | 1 => n2 | 2 => n3 | _ => n4) j) ((fun | 0 => c1 | 1 => c2 | 2 => c3 | _ => c4) j), .int .i64 ((fun | 0 => x1 | 1 => x2 | 2 => x3 | _ => x4) j)], rfl, rfl, rfl, k5, ?_⟩
 intro _ _ r7 _
 refine (trim_q (a := mul4 a b c d i) (b := mul4 a b c d j) (N := N + M) (PI.mk (four_of (p := fun k => PQ _ w.heap.size (.agg #[.bool ((fun | 0 => b1 | 1 => b2 | 2 => b3 | _ => b4) k), .slice ((fun | 0 => A1 | 1 => A2 | 2 => A3 | _ => A4) k) ((fun | 0 => n1 | 1 => n2 | 2 => n3 | _ => n4) k) ((fun | 0 => c1 | 1 => c2 | 2 => c3 | _ => c4) k), .int .i64 ((fun | 0 => x1 | 1 => x2 | 2 => x3 | _ => x4) k)]) (mul4 a b c d k) (N + M)) (h1.lat (r7.at_ 0 _ rfl)) (h2.lat (r7.at_ 1 _ rfl)) (h3.lat (r7.at_ 2 _ rfl)) (h4.lat (r7.at_ 3 _ rfl)) i hi) (four_of (p := fun k => PQ _ w.heap.size (.agg #[.bool ((fun | 0 => b1 | 1 => b2 | 2 => b3 | _ => b4) k), .slice ((fun | 0 => A1 | 1 => A2 | 2 => A3 | _ => A4) k) ((fun | 0 => n1 | 1 => n2 | 2 => n3 | _ => n4) k) ((fun | 0 => c1 | 1 => c2 | 2 => c3 | _ => c4) k), .int .i64 ((fun | 0 => x1 | 1 => x2 | 2 => x3 | _ => x4) k)]) (mul4 a b c d k) (N + M)) (h1.lat (r7.at_ 0 _ rfl)) (h2.lat (r7.at_ 1 _ rfl)) (h3.lat (r7.at_ 2 _ rfl)) (h4.lat (r7.at_ 3 _ rfl)) j hj)).c (by omega) hp hp2 (tb hT r7)).mono ?_
 rintro _ V6 ⟨v, l6, u6, rfl, h6, el6, eu6, sl6, su6, k6⟩
 obtain ⟨b6, A6, n6, c6, x6, d6, B6, m6, e6, y6, rfl⟩ := h6.ex
 replace h6 := h6.lower r7.fs
 refine ⟨[.bool b6, .slice A6 n6 c6, .int .i64 x6, .bool d6, .slice B6 m6 e6, .int .i64 y6], rfl, rfl, rfl, k6, ?_⟩
 intro _ _ _ r8 S8
 exact rt S8 [.agg #[.bool b6, .slice A6 n6 c6, .int .i64 x6, .bool d6, .slice B6 m6 e6, .int .i64 y6]] (⟨_, _, _, rfl, (h6.lat (r8.at_ 5 _ rfl)), ⟨_, _, ⟨i, j, hi, hj, hq, rfl, rfl⟩, el6, eu6⟩, sl6, su6, r8.first⟩)
def PF (w : World) (b : Nat) (v : Value) (f : Nat × Nat) : Prop := ∃ A n c, v = .agg #[.slice A n c, .int .u64 (f.2 : Int)] ∧ PN w b (.slice A n c) f.1
def CF (w : World) (v : Value) (f : Nat × Nat) : Prop := ∃ A n c, v = .agg #[.slice A n c, .int .u64 (f.2 : Int)] ∧ CN w (.slice A n c) f.1
theorem PF.c {w : World} {b : Nat} {v : Value} {f : Nat × Nat} (h : PF w b v f) : CF w v f := by
 obtain ⟨A, n, c, h1, h2⟩ := h; exact ⟨A, n, c, h1, h2.c⟩
theorem PF.below {w w1 : World} {b : Nat} {v : Value} {f : Nat × Nat} (h : PF w b v f) (hb : BL w w1) : PF w1 b v f := by
 obtain ⟨A, n, c, h1, h2⟩ := h; exact ⟨A, n, c, h1, h2.below hb⟩
theorem CF.below {w w1 : World} {v : Value} {f : Nat × Nat} (h : CF w v f) (hb : BL w w1) : CF w1 v f := by
 obtain ⟨A, n, c, h1, h2⟩ := h; exact ⟨A, n, c, h1, h2.below hb⟩
theorem PF.lat {w w1 : World} {b : Nat} {v : Value} {f : Nat × Nat} (h : PF w b v f) (hb : Lat 64 w w1) : PF w1 b v f := by
 obtain ⟨A, n, c, h1, h2⟩ := h; exact ⟨A, n, c, h1, h2.lat hb⟩
theorem PF.lower {w : World} {b b' : Nat} {v : Value} {f : Nat × Nat} (h : PF w b v f) (hb : b' ≤ b) : PF w b' v f := by
 obtain ⟨A, n, c, h1, h2⟩ := h; exact ⟨A, n, c, h1, h2.lower hb⟩
theorem PF.ex {w : World} {b : Nat} {v : Value} {f : Nat × Nat} (h : PF w b v f) : ∃ A n c, v = .agg #[.slice A n c, .int .u64 (f.2 : Int)] := by
 obtain ⟨A, n, c, h1, _⟩ := h; exact ⟨A, n, c, h1⟩
theorem CF.ex {w : World} {v : Value} {f : Nat × Nat} (h : CF w v f) : ∃ A n c, v = .agg #[.slice A n c, .int .u64 (f.2 : Int)] := by
 obtain ⟨A, n, c, h1, _⟩ := h; exact ⟨A, n, c, h1⟩
theorem agg2_inj {a b a' b' : Value} (h : Value.agg #[a, b] = .agg #[a', b']) : a = a' ∧ b = b' := by
 injection h with h
 have := congrArg Array.toList h
 simp only [List.cons.injEq] at this
 exact ⟨this.1, this.2.1⟩
theorem PF.n {w : World} {b : Nat} {a x : Value} {f : Nat × Nat} (h : PF w b (.agg #[a, x]) f) : PN w b a f.1 := by
 obtain ⟨A, n, c, h1, h2⟩ := h
 obtain ⟨rfl, _⟩ := agg2_inj h1; exact h2
theorem CF.n {w : World} {a x : Value} {f : Nat × Nat} (h : CF w (.agg #[a, x]) f) : CN w a f.1 := by
 obtain ⟨A, n, c, h1, h2⟩ := h
 obtain ⟨rfl, _⟩ := agg2_inj h1; exact h2
theorem PF.mk {w : World} {b a e : Nat} {v : Value} (h : PN w b v a) : PF w b (.agg #[v, .int .u64 (e : Int)]) (a, e) := by
 obtain ⟨A, n, c, rfl⟩ := h.ex; exact ⟨A, n, c, rfl, h⟩
theorem u64_id {x : Int} (h1 : 0 ≤ x) (h2 : x ≤ 18446744073709551615) : IntKind.u64.wrap x = x := wrap_u64 h1 h2
open Go.RowKit Go.Proofs.YtkdicconchobfaaGreatDoorW.PrintWords Limb
theorem info_fix : (Tryz.prog.info? 101).map (·.size) = some 2 := by kernel_rfl
theorem info_w1 : (Tryz.prog.info? 64).map (·.size) = some 1 := by kernel_rfl
theorem any_fix : (Tryz.prog.underlying 101).any (fun d => match d with | .struct _ | .array _ _ => true | _ => false) = true := by kernel_rfl
section
variable {P : Program} {ops : Array Oper} {rest : List Oper} {o : Oper} {a : Act} {Q : Exit → Act → World → Prop}
theorem store_field {W : World} (t : TypeId) (p : Tmp) (x : Operand) (ho : o.op = .store t (.tmp p) x) (hgd : o.guard = none) (hN : o.dst = none) {g i : Nat} {cur new : Array Value} {e : TypeId} (u : Value)
 (haddr : a.eval (.tmp p) = .pointer (some ⟨g, i, none⟩)) (hx : a.eval x = u) (hu : u.cells.toList = [u]) (ht : (P.info? t).map (·.size) = some 1) (h1 : u.oneCell' = true)
 (hh : W.heap[g]? = some (.cells cur e (0, 0))) (hi : i < cur.size) (hnew : cur.setIfInBounds i u = new)
 (h : ∀ w1, w1.heap[g]? = some (.cells new e (0, 0)) → W.grownBy w1 (some g) → wpList P ops Q rest a w1) : wpList P ops Q (o :: rest) a W := by
 have hst := run_store_run (P := P) t u [u] hh hu ht (o := i) (by simp; omega) (fun q hq => by rw [List.mem_singleton.1 hq]; exact h1)
 refine store_event hgd ho hN (w1 := W.setCells g i [u]) ?_ ?_
 · simp [execOp, ho, haddr, hx, hst]
 · rintro w' rfl
   obtain ⟨s1, s2, s3, s4⟩ := setCells_same g [u] i W
   refine h _ ?_ ⟨s1, s2, s3, by rw [s4]; exact Nat.le_refl _, fun k _ hk => setCells_far [u] _ k (fun he => hk (by rw [he]))⟩
   have := blk_set hh i u
   rw [hnew] at this
   exact this
end
theorem PL_len {w : World} {b : Nat} {A : Option Addr} {n c : Nat} {l : List Nat} (h : PL w b (.slice A n c) l) : n = l.length := by
 obtain ⟨A', n', c', _, l', h1, rfl, _⟩ := h
 injection h1
theorem PL_ex {w : World} {b : Nat} {v : Value} {l : List Nat} (h : PL w b v l) : ∃ A n c, v = .slice A n c := by
 obtain ⟨A, n, c, _, _, rfl, _⟩ := h; exact ⟨A, n, c, rfl⟩
theorem first_word {w : World} {b : Nat} {A : Option Addr} {n c m D : Nat} (h : PL w b (.slice A n c) (limbs m)) (hm : m = D) (h0 : 0 < D ∧ D < 18446744073709551616) : ∃ ad, A = some ad ∧ 0 < n ∧ w.cell? ad = some (.int .u64 (D : Int)) := by
 subst hm
 obtain ⟨A', c', he, h1, h2⟩ := h.c
 injection he with e1 e2 e3
 subst e1 e2 e3
 have hp : 0 < (limbs m).length := Nat.pos_of_ne_zero (fun q => by
  have := List.length_eq_zero_iff.1 q
  have := limbs_eq_nil.1 this
  omega)
 obtain ⟨ad, x, rfl, hx, hc⟩ := at_word h2 rfl 0 hp
 have e := wd_of hx
 rw [wd_eq (wf_limbs _), nv_limbs] at e
 have : x = m := by rw [← e, Nat.mul_zero, Nat.pow_zero, Nat.div_one]; exact Nat.mod_eq_of_lt h0.2
 subst this
 refine ⟨ad, rfl, hp, ?_⟩
 have e0 : ad.add 0 = ad := by cases ad; simp [Addr.add]
 rw [e0] at hc
 exact hc
theorem between_any {A : Option Addr} {na c a b : Nat} {v : Value} {w : World} (hd : b - a < 18446744073709551616)
 (QS : Aside0 (∀ m, BL w m → Calls Tryz.prog 105 #[v, .slice A na c] m fun e w' => ∃ v', e = .returned v' ∧ PL w' m.heap.size v' (limbs (b - a)) ∧ BL m w')) :
 Calls Tryz.prog 143 #[.slice A na c, v] w fun en w' => ∃ v', en = .returned v' ∧ v' = .agg #[.slice A na c, .int .u64 ((b - a : Nat) : Int)] ∧ BL w w' := by
 have HH5 : Aside0 (((w.alloc (.cells #[.slice none 0 0, .int .u64 0] 101)).alloc (.cells #[.slice none 0 0, .int .u64 0] 101)).heap[w.heap.size + 1]? = some (.cells #[.slice none 0 0, .int .u64 0] 101 (0, 0))) := ⟨by have h := blk_new (w.alloc (.cells #[.slice none 0 0, .int .u64 0] 101)) (.cells #[.slice none 0 0, .int .u64 0] 101); rw [size_alloc'] at h; exact h⟩
 have HH4 : Aside0 (((w.alloc (.cells #[.slice none 0 0, .int .u64 0] 101)).alloc (.cells #[.slice none 0 0, .int .u64 0] 101)).heap[w.heap.size]? = some (.cells #[.slice none 0 0, .int .u64 0] 101 (0, 0))) := ⟨blk_alloc (blk_new w (.cells #[.slice none 0 0, .int .u64 0] 101)) _⟩
 by_cases h0 : b - a = 0
 · have HD := yk h0
   clear h0 hd
   go_enter Tryz.func143, Tryz.ntmps143
   go_wp2_with (first
    | (((with_reducible refine gate_store (p := 5) rfl ?_); go_must (refine store_box 101 5 (.tmp 8) rfl rfl rfl (g := w.heap.size + 1) (e := 101) (.agg #[.slice A na c, .int .u64 0]) ([.slice A na c, .int .u64 0]) rfl rfl rfl info_fix ?b1 HH5.out rfl ?_; (case b1 => intro q hq; simp at hq; rcases hq with rfl | rfl <;> rfl); intro wb hbx hgx; have HX := yk hbx; have HG := yk hgx; clear hbx hgx)); have BW := yk ((below_alloc (below_alloc (Below.refl w.heap.size w) (.cells #[.slice none 0 0, .int .u64 0] 101)) (.cells #[.slice none 0 0, .int .u64 0] 101)).grown HG.out (below_alloc (below_alloc (Below.refl w.heap.size w) (.cells #[.slice none 0 0, .int .u64 0] 101)) (.cells #[.slice none 0 0, .int .u64 0] 101)).size (fun k hk => by cases hk; omega)); have H4 := yk (blk_grown HH4.out HG.out (by omega)); have QW := yk (QS.out wb BW.out); clear HG)
    | (go_at_call 105; go_must (refine QW.out.mono ?_; rintro en w2 ⟨v2, rfl, h2, hb⟩; replace HX := yk (yb HX.out hb); replace H4 := yk (yb H4.out hb); replace BW := yk (below_then BW.out BW.out.size hb); obtain ⟨A2, n2, c2, rfl⟩ := PL_ex h2; have hz2 := PL_len h2; rw [HD.out, limbs_zero] at hz2; subst hz2; clear h2 hb; obtain ⟨q0, q0', q1, q1'⟩ := bc2 HX.out;  skip))
    | (((with_reducible refine gate_store (p := 4) rfl ?_); go_must (refine store_box 101 4 (.tmp 19) rfl rfl rfl (g := w.heap.size) (e := 101) (.agg #[.slice A na c, .int .u64 0]) ([.slice A na c, .int .u64 0]) rfl rfl rfl info_fix ?b1 H4.out rfl ?_; (case b1 => intro q hq; simp at hq; rcases hq with rfl | rfl <;> rfl); intro wb hbx hgx; have HR := yk hbx; have HG := yk hgx; clear hbx hgx)); replace BW := yk (BW.out.grown HG.out BW.out.size (fun k hk => by cases hk; omega)); clear q0 q0' q1 q1'))
   refine bodyPost_ret (results_big any_fix info_fix rfl _ _ w.heap.size _ rfl HR.out rfl) rfl ?_
   exact ⟨_, rfl, by rw [HD.out] <;> rfl, BW.out⟩
 · obtain ⟨D, hD⟩ : ∃ D, b - a = D := ⟨_, rfl⟩
   have hd0 : 0 < D ∧ D < 18446744073709551616 := by omega
   have HD := yk hD
   clear hD h0 hd
   go_enter Tryz.func143, Tryz.ntmps143
   go_wp2_with (first
    | (((with_reducible refine gate_store (p := 5) rfl ?_); go_must (refine store_box 101 5 (.tmp 8) rfl rfl rfl (g := w.heap.size + 1) (e := 101) (.agg #[.slice A na c, .int .u64 0]) ([.slice A na c, .int .u64 0]) rfl rfl rfl info_fix ?b1 HH5.out rfl ?_; (case b1 => intro q hq; simp at hq; rcases hq with rfl | rfl <;> rfl); intro wb hbx hgx; have HX := yk hbx; have HG := yk hgx; clear hbx hgx)); have BW := yk ((below_alloc (below_alloc (Below.refl w.heap.size w) (.cells #[.slice none 0 0, .int .u64 0] 101)) (.cells #[.slice none 0 0, .int .u64 0] 101)).grown HG.out (below_alloc (below_alloc (Below.refl w.heap.size w) (.cells #[.slice none 0 0, .int .u64 0] 101)) (.cells #[.slice none 0 0, .int .u64 0] 101)).size (fun k hk => by cases hk; omega)); have H4 := yk (blk_grown HH4.out HG.out (by omega)); have QW := yk (QS.out wb BW.out); clear HG)
    | (go_at_call 105; go_must (refine QW.out.mono ?_; rintro en w2 ⟨v2, rfl, h2, hb⟩; replace HX := yk (yb HX.out hb); replace H4 := yk (yb H4.out hb); replace BW := yk (below_then BW.out BW.out.size hb); obtain ⟨A2, n2, c2, rfl⟩ := PL_ex h2; obtain ⟨ad, rfl, hpos, hcell⟩ := first_word h2 HD.out hd0; clear h2 hb))
    | (((with_reducible refine gate_store (p := 18) rfl ?_); go_must (refine store_field 64 18 (.tmp 17) rfl rfl rfl (g := w.heap.size + 1) (i := 1) (cur := #[.slice A na c, .int .u64 0]) (.int .u64 (D : Int)) rfl rfl rfl info_w1 rfl HX.out (by simp) (new := #[.slice A na c, .int .u64 (D : Int)]) rfl ?_; intro wb hbx hgx; have HY := yk hbx; have HG := yk hgx; clear hbx hgx)); replace H4 := yk (blk_grown H4.out HG.out (by omega)); replace BW := yk (BW.out.grown HG.out BW.out.size (fun k hk => by cases hk; omega)); replace HX := HY; clear HG HY; obtain ⟨q0, q0', q1, q1'⟩ := bc2 HX.out;  skip)
    | (((with_reducible refine gate_store (p := 4) rfl ?_); go_must (refine store_box 101 4 (.tmp 19) rfl rfl rfl (g := w.heap.size) (e := 101) (.agg #[.slice A na c, .int .u64 (D : Int)]) ([.slice A na c, .int .u64 (D : Int)]) rfl rfl rfl info_fix ?b1 H4.out rfl ?_; (case b1 => intro q hq; simp at hq; rcases hq with rfl | rfl <;> rfl); intro wb hbx hgx; have HR := yk hbx; have HG := yk hgx; clear hbx hgx)); replace BW := yk (BW.out.grown HG.out BW.out.size (fun k hk => by cases hk; omega)); clear q0 q0' q1 q1'))
   refine bodyPost_ret (results_big any_fix info_fix rfl _ _ w.heap.size _ rfl HR.out rfl) rfl ?_
   exact ⟨_, rfl, by rw [HD.out] <;> rfl, BW.out⟩
theorem psub_nil (A B : Option Addr) (nb c d : Nat) (w : World) :
 Calls Tryz.prog 105 #[.slice A 0 c, .slice B nb d] w fun e w' => ∃ v, e = .returned v ∧ PL w' w.heap.size v (limbs 0) ∧ BL w w' := by
 go_enter Tryz.func105, Tryz.ntmps105
 go_wp2_with ((with_reducible refine gate_dst (N := 11) rfl ?_); go_must (refine Kd.R_make kU (w0 := w) w.heap.size 64 rfl rfl 22 (.tmp 10) (.tmp 10) rfl ((0 : Nat) : Int) ?mx ?my Tryz.underlying22 (.int .u64 0) 8 info_word rfl (by decide) (by decide) 0 (ok := fun _ => True) (okp := fun _ => False) ?mz (fun _ h => h.elim) trivial (by omega) ?ml yr (Nat.le_refl _) ?_; (case mx => rfl); (case my => rfl); (case mz => rfl); (case ml => omega); intro v_3 w_3 ho hb hg hown; obtain ⟨B2, cap, rfl, hcap, hC⟩ := Kd.R_reads ho; rw [show (List.replicate (((0 : Nat) : Int)).toNat (0 : Nat)) = ([] : List Nat) by simp] at ho ⊢; have HO := yk ho; have HB := yk hb; clear ho hb hg hown hC hcap))
 go_loopw [6, 14] (fun v6 v14 wr => v6 = .int .u64 0 ∧ v14 = .int .i64 0 ∧ wr = w_3) (fun _ _ _ => 0)
 case atStart => exact ⟨rfl, by go_num, rfl⟩
 case round =>
  obtain ⟨rfl, rfl, rfl⟩ := hrel
  have QT := yk (trim_own HO.out .nil (by decide))
  go_wp2_with (go_at_call 109; refine QT.out.mono ?_; rintro e w5 ⟨v, rfl, ho, n5, rfl⟩; have HOO := yk ho; clear ho)
  go_ret
  exact ⟨_, rfl, HOO.out, pw_below_drewN HB.out _⟩
end Go.Proofs.YtkdicconchobfaaGreatDoor

namespace Knu
set_option linter.unusedVariables false
theorem guess_top {q d r d1 d0 M X r0 : Nat} (h : q * d ≤ r) (hd : d = d1 * M + d0) (hr : r = X * M + r0) (h0 : r0 < M) (hd1 : 0 < d1) : q ≤ X / d1 := by
 refine (Nat.le_div_iff_mul_le hd1).2 ?_
 have h1 : q * d1 * M ≤ r := by
  have : q * (d1 * M) ≤ q * d := Nat.mul_le_mul_left _ (by omega)
  rw [Nat.mul_assoc]; omega
 have h2 : q * d1 * M < (X + 1) * M := by rw [Nat.add_mul, Nat.one_mul]; omega
 have := Nat.lt_of_mul_lt_mul_right h2
 omega
theorem guess_mid {q d r g D M X r0 d0 : Nat} (h : q * d ≤ r) (hd : d = D * M + d0) (hr : r = X * M + r0) (h0 : r0 < M) (hg : X < g * D) : q < g := by
 refine Classical.byContradiction fun hq => ?_
 have h1 : g * d ≤ q * d := Nat.mul_le_mul_right _ (by omega)
 have h2 : g * (D * M) ≤ g * d := Nat.mul_le_mul_left _ (by omega)
 have h3 : (X + 1) * M ≤ g * D * M := Nat.mul_le_mul_right _ hg
 rw [Nat.add_mul, Nat.one_mul] at h3
 rw [← Nat.mul_assoc] at h2
 omega
theorem test_mid {B g d1 d2 X r3 low : Nat} (hl : low + g * d1 = X) : g * d2 ≤ low * B + r3 ↔ g * (d1 * B + d2) ≤ X * B + r3 := by
 have e : g * (d1 * B + d2) = g * d1 * B + g * d2 := by rw [Nat.mul_add, Nat.mul_assoc]
 have e2 : X * B = low * B + g * d1 * B := by rw [← hl, Nat.add_mul]
 omega
theorem sub_all {q d r g W R less : Nat} (hR : R + g * d = r + less * W) (hRW : R < W) (hg : q ≤ g) (hq : q = r / d) (hd : 0 < d) (hl : less ≤ 1) : (less = 0 → g = q ∧ R = r % d) ∧ (less = 1 → q < g) := by
 have h1 := Nat.div_add_mod r d
 have h2 := Nat.mod_lt r hd
 rw [← hq] at h1
 constructor
 · rintro rfl
   have hle : g * d ≤ r := by omega
   have hgq : g ≤ q := by rw [hq]; exact (Nat.le_div_iff_mul_le hd).2 hle
   have e : g = q := by omega
   subst e
   refine ⟨rfl, ?_⟩
   have : d * g = g * d := Nat.mul_comm _ _
   omega
 · rintro rfl
   refine Classical.byContradiction fun h => ?_
   have e : g = q := by omega
   subst e
   have : d * g = g * d := Nat.mul_comm _ _
   omega
theorem add_back {d r g W R R' c : Nat} (hR : R + g * d = r + W) (hg : 0 < g) (hA : R' + c * W = R + d) (hc : c ≤ 1) : ∃ l, l + c = 1 ∧ R' + (g - 1) * d = r + l * W := by
 obtain ⟨k, rfl⟩ : ∃ k, g = k + 1 := ⟨g - 1, by omega⟩
 rw [Nat.add_mul, Nat.one_mul] at hR
 refine ⟨1 - c, by omega, ?_⟩
 rw [Nat.add_sub_cancel]
 have hc2 : c = 0 ∨ c = 1 := by omega
 rcases hc2 with rfl | rfl
 · omega
 · omega
theorem place {a d B Q R q R' x : Nat} (h : a = Q * d + R) (hR : R * B + x = q * d + R') : a * B + x = (Q * B + q) * d + R' := by
 rw [h, Nat.add_mul, Nat.add_mul]
 have : Q * d * B = Q * B * d := by rw [Nat.mul_right_comm]
 omega
end Knu
namespace Knu
set_option linter.unusedVariables false
theorem exact_guess {q g N D : Nat} (hD : 0 < D) (hq : q = N / D) (h1 : q ≤ g) (h2 : g * D ≤ N) : g = q := by
 have : g ≤ N / D := (Nat.le_div_iff_mul_le hD).2 h2
 omega
theorem guess_high {B u32 y1 y0 : Nat} (hB : 2 ≤ B) (hy : y0 < B) (hn : B ≤ 2 * y1) (h : u32 < y1 * B + y0) : u32 / y1 ≤ B + 1 := by
 have hy1 : 0 < y1 := by omega
 have h2 : u32 < (B + 2) * y1 := by
  have : (B + 2) * y1 = y1 * B + 2 * y1 := by rw [Nat.add_mul, Nat.mul_comm B]
  omega
 have := (Nat.div_lt_iff_lt_mul hy1).2 h2
 omega
theorem guess_left {B g y0 rhat u1 : Nat} (hg : g ≤ B) (hy : y0 < B) (hr : B ≤ rhat) : g * y0 ≤ rhat * B + u1 := by
 have h1 : g * y0 ≤ B * y0 := Nat.mul_le_mul_right _ hg
 have h2 : B * y0 ≤ B * B := Nat.mul_le_mul_left _ (by omega)
 have h3 : B * B ≤ rhat * B := Nat.mul_le_mul_right _ hr
 omega
theorem two_places {N D B q1 r1 q0 r0 u1 u0 u : Nat} (hD : 0 < D) (hN : N = (u * B + u1) * B + u0) (h1 : u * B + u1 = q1 * D + r1) (h2 : r1 * B + u0 = q0 * D + r0) (h3 : r0 < D) : N / D = q1 * B + q0 ∧ N % D = r0 := by
 have e : N = (q1 * B + q0) * D + r0 := by rw [hN]; exact place h1 h2
 constructor
 · rw [e, Nat.mul_comm, Nat.mul_add_div hD, Nat.div_eq_of_lt h3, Nat.add_zero]
 · rw [e, Nat.mul_comm, Nat.mul_add_mod]; exact Nat.mod_eq_of_lt h3
theorem shifted {N D s : Nat} (hD : 0 < D) : N * 2 ^ s / (D * 2 ^ s) = N / D ∧ N * 2 ^ s % (D * 2 ^ s) / 2 ^ s = N % D := by
 have p := Nat.two_pow_pos s
 exact ⟨Nat.mul_div_mul_right _ _ p, by rw [Nat.mul_mod_mul_right, Nat.mul_div_cancel _ p]⟩
end Knu

namespace Go.Proofs.YtkdicconchobfaaGreatDoor
open Go.RowKit Go.Proofs.YtkdicconchobfaaGreatDoorW.PrintWords Limb
set_option linter.unusedVariables false
set_option linter.unusedSimpArgs false
theorem u64_mod (x : Int) : IntKind.u64.wrap x = x % 18446744073709551616 := by
 unfold IntKind.wrap; simp [IntKind.bits, IntKind.signed]
theorem w64c {x : Int} (h0 : 0 ≤ x) (h : x < 18446744073709551616) : IntKind.u64.wrap x = x := by
 rw [u64_mod]; omega
theorem d64_set {hi lo y s : Nat} (h0 : 0 < hi) (hhi : hi < y) (hy : y < 18446744073709551616) (hl : lo < 18446744073709551616) (hs : s = 64 - bl y) :
 ∃ Y Y1 Y0 U H T L u1 u0 : Nat, Y = y * 2 ^ s ∧ Y < 18446744073709551616 ∧ Y = Y1 * 4294967296 + Y0 ∧ Y0 < 4294967296 ∧ 2147483648 ≤ Y1 ∧ Y1 < 4294967296 ∧ H = hi * 2 ^ s ∧ H < 18446744073709551616 ∧ T = lo / 2 ^ (64 - s) ∧ T < 18446744073709551616 ∧ H ||| T = U ∧ U < Y ∧ L = lo * 2 ^ s % 18446744073709551616 ∧ L = u1 * 4294967296 + u0 ∧ u1 < 4294967296 ∧ u0 < 4294967296 ∧ (hi * 18446744073709551616 + lo) * 2 ^ s = (U * 4294967296 + u1) * 4294967296 + u0 ∧ s ≤ 63 := by
 have hb : bl y ≤ 64 := bl_le_iff.2 hy
 have hb1 := bl_lt y
 have hb2 := bl_le (n := y) (by omega)
 have hb0 : 1 ≤ bl y := by
  rcases Nat.lt_or_ge 0 (bl y) with h | h
  · exact h
  · rw [Nat.le_zero.1 h] at hb1; omega
 have hp := Nat.two_pow_pos s
 have e64 : (2 : Nat) ^ bl y * 2 ^ s = 18446744073709551616 := by rw [← Nat.pow_add, show bl y + s = 64 by omega]
 have e63 : (2 : Nat) ^ (bl y - 1) * 2 ^ s = 9223372036854775808 := by rw [← Nat.pow_add, show bl y - 1 + s = 63 by omega]
 have hY := Nat.mul_lt_mul_of_pos_right hb1 hp
 have hY2 := Nat.mul_le_mul_right (2 ^ s) hb2
 rw [e64] at hY
 rw [e63] at hY2
 have hH : (hi + 1) * 2 ^ s ≤ y * 2 ^ s := Nat.mul_le_mul_right _ hhi
 rw [Nat.add_mul, Nat.one_mul] at hH
 obtain ⟨a1, a2, a3, a4⟩ := shl_word (x := lo) (k := s) (cy := 0) hl (by omega) hp
 have hTs : lo / 2 ^ (64 - s) < 2 ^ s := a4
 have hHm : hi * 2 ^ s % 2 ^ 64 = hi * 2 ^ s := Nat.mod_eq_of_lt (by omega)
 obtain ⟨b1, b2, _, _⟩ := shl_word (x := hi) (k := s) (cy := lo / 2 ^ (64 - s)) (by omega) (by omega) hTs
 rw [hHm] at b1 b2
 refine ⟨y * 2 ^ s, y * 2 ^ s / 4294967296, y * 2 ^ s % 4294967296, hi * 2 ^ s + lo / 2 ^ (64 - s), hi * 2 ^ s, lo / 2 ^ (64 - s), lo * 2 ^ s % 18446744073709551616, lo * 2 ^ s % 18446744073709551616 / 4294967296, lo * 2 ^ s % 18446744073709551616 % 4294967296, rfl, hY, by omega, by omega, by omega, by omega, rfl, by omega, rfl, by omega, b1, by omega, rfl, by omega, by omega, by omega, ?_, by omega⟩
 have hd := Nat.div_add_mod (lo * 2 ^ s) (2 ^ 64)
 rw [a3] at hd
 rw [Nat.add_mul, Nat.mul_right_comm]
 omega
theorem half_init {U Y Y1 Y0 u : Nat} (hY : Y = Y1 * 4294967296 + Y0) (hY0 : Y0 < 4294967296) (h1 : 2147483648 ≤ Y1) (h2 : Y1 < 4294967296) (hU : U < Y) (hu : u < 4294967296) : U / Y1 * Y1 + U % Y1 = U ∧ (U * 4294967296 + u) / Y ≤ U / Y1 ∧ U / Y1 ≤ 4294967297 ∧ U % Y1 < 4294967296 := by
 have hd := Nat.div_add_mod U Y1
 have hm := Nat.mod_lt U (show 0 < Y1 by omega)
 refine ⟨by rw [Nat.mul_comm]; exact hd, ?_, Knu.guess_high (B := 4294967296) (by decide) hY0 (by omega) (by rw [← hY]; exact hU), by omega⟩
 exact Knu.guess_top (Nat.div_mul_le_self _ Y) hY rfl hu (by omega)
theorem half_end {U Y Y1 Y0 u q r : Nat} (hY : Y = Y1 * 4294967296 + Y0) (hY1 : 0 < Y1) (he : q * Y1 + r = U) (h1 : (U * 4294967296 + u) / Y ≤ q) (h2 : q * Y0 ≤ 4294967296 * r + u) : q = (U * 4294967296 + u) / Y ∧ U * 4294967296 + u - q * Y < Y ∧ q * Y ≤ U * 4294967296 + u ∧ U * 4294967296 + u - q * Y = (U * 4294967296 + u) % Y := by
 have hq : q = (U * 4294967296 + u) / Y := by
  refine Knu.exact_guess (D := Y) (N := U * 4294967296 + u) (by omega) rfl h1 ?_
  have e : q * Y = q * Y1 * 4294967296 + q * Y0 := by rw [hY, Nat.mul_add, Nat.mul_assoc]
  omega
 have hd := Nat.div_add_mod (U * 4294967296 + u) Y
 have hm := Nat.mod_lt (U * 4294967296 + u) (show 0 < Y by omega)
 rw [← hq, Nat.mul_comm Y q] at hd
 have hle : q * Y ≤ U * 4294967296 + u := by rw [← hd]; exact Nat.le_add_right _ _
 refine ⟨hq, ?_, hle, ?_⟩
 · generalize (U * 4294967296 + u) % Y = D at *; omega
 · generalize (U * 4294967296 + u) % Y = D at *; omega
theorem half_great {U Y Y1 Y0 u q r : Nat} (hY : Y = Y1 * 4294967296 + Y0) (hY1 : 0 < Y1) (hU : U < Y) (hu : u < 4294967296) (he : q * Y1 + r = U) (h : 4294967296 ≤ q ∨ 4294967296 * r + u < q * Y0) : (U * 4294967296 + u) / Y ≤ q - 1 ∧ 1 ≤ q := by
 have hq : (U * 4294967296 + u) / Y < q := by
  refine (Nat.div_lt_iff_lt_mul (by omega)).2 ?_
  rcases h with h | h
  · have h3 : 4294967296 * Y ≤ q * Y := Nat.mul_le_mul_right _ h
    have h4 : (U + 1) * 4294967296 ≤ Y * 4294967296 := Nat.mul_le_mul_right _ hU
    omega
  · have e : q * Y = q * Y1 * 4294967296 + q * Y0 := by rw [hY, Nat.mul_add, Nat.mul_assoc]
    omega
 generalize (U * 4294967296 + u) / Y = D at *
 omega
theorem half_break {U Y Y1 Y0 u q r : Nat} (hY : Y = Y1 * 4294967296 + Y0) (hY1 : 0 < Y1) (hY0 : Y0 < 4294967296) (he : q * Y1 + r = U) (hq1 : 1 ≤ q) (hq : q ≤ 4294967297) (h1 : (U * 4294967296 + u) / Y ≤ q - 1) (hr : 4294967296 ≤ r + Y1) : (q - 1) = (U * 4294967296 + u) / Y ∧ U * 4294967296 + u - (q - 1) * Y < Y ∧ (q - 1) * Y ≤ U * 4294967296 + u ∧ U * 4294967296 + u - (q - 1) * Y = (U * 4294967296 + u) % Y := by
 obtain ⟨p, rfl⟩ : ∃ p, q = p + 1 := ⟨q - 1, by omega⟩
 rw [Nat.add_sub_cancel] at h1 ⊢
 rw [Nat.add_mul, Nat.one_mul] at he
 have := Knu.guess_left (B := 4294967296) (g := p) (y0 := Y0) (u1 := u) (by omega) hY0 hr
 exact half_end (r := r + Y1) hY hY1 (by omega) h1 (by omega)
theorem half_rest {U Y u v : Nat} (hle : v * Y ≤ U * 4294967296 + u) (hlt : U * 4294967296 + u - v * Y < Y) (hY : Y < 18446744073709551616) : ∃ A B C R : Nat, IntKind.u64.wrap ((U : Int) * 4294967296) = (A : Int) ∧ IntKind.u64.wrap ((A : Int) + (u : Int)) = (B : Int) ∧ IntKind.u64.wrap ((v : Int) * (Y : Int)) = (C : Int) ∧ IntKind.u64.wrap ((B : Int) - (C : Int)) = (R : Int) ∧ R = U * 4294967296 + u - v * Y := by
 refine ⟨U * 4294967296 % 18446744073709551616, (U * 4294967296 % 18446744073709551616 + u) % 18446744073709551616, v * Y % 18446744073709551616, U * 4294967296 + u - v * Y, ?_, ?_, ?_, ?_, rfl⟩
 · rw [u64_mod]; omega
 · rw [u64_mod]; omega
 · rw [u64_mod, ← Int.natCast_mul]; omega
 · rw [u64_mod]; generalize v * Y = P at *; omega
theorem half_quot {U Y Y1 Y0 u : Nat} (hY : Y = Y1 * 4294967296 + Y0) (hY0 : Y0 < 4294967296) (h1 : 2147483648 ≤ Y1) (h2 : Y1 < 4294967296) (hU : U < Y) (hu : u < 4294967296) : ∃ g r : Nat, IntKind.u64.wrap ((U : Int) / (Y1 : Int)) = (g : Int) ∧ IntKind.u64.wrap ((U : Int) - IntKind.u64.wrap ((g : Int) * (Y1 : Int))) = (r : Int) ∧ Aside0 (g * Y1 + r = U) ∧ Aside0 ((U * 4294967296 + u) / Y ≤ g) ∧ g ≤ 4294967297 ∧ r < 4294967296 := by
 obtain ⟨i1, i2, i3, i4⟩ := half_init (u := u) hY hY0 h1 h2 hU hu
 refine ⟨U / Y1, U % Y1, ?_, ?_, ⟨i1⟩, ⟨i2⟩, i3, i4⟩
 · rw [← Int.natCast_ediv]; generalize U / Y1 = z at *; exact w64c (by omega) (by omega)
 · have z : ((U / Y1 : Nat) : Int) * (Y1 : Int) + ((U % Y1 : Nat) : Int) = (U : Int) := by rw [← Int.natCast_mul, ← Int.natCast_add, i1]
   generalize ((U / Y1 : Nat) : Int) * (Y1 : Int) = p at *
   generalize U % Y1 = k at *
   rw [u64_mod, u64_mod]; omega
theorem half_test {q r Y0 u : Nat} (hq : q < 4294967296) (hY0 : Y0 < 4294967296) (hr : r < 4294967296) (hu : u < 4294967296) : ∃ p t t2 : Nat, IntKind.u64.wrap ((q : Int) * (Y0 : Int)) = (p : Int) ∧ IntKind.u64.wrap (4294967296 * (r : Int)) = (t : Int) ∧ IntKind.u64.wrap ((t : Int) + (u : Int)) = (t2 : Int) ∧ Aside0 (p = q * Y0) ∧ Aside0 (t2 = 4294967296 * r + u) := by
 refine ⟨q * Y0, 4294967296 * r, 4294967296 * r + u, ?_, ?_, ?_, ⟨rfl⟩, ⟨rfl⟩⟩
 · have : q * Y0 ≤ 4294967295 * 4294967295 := Nat.mul_le_mul (by omega) (by omega)
   rw [← Int.natCast_mul]; exact w64c (by omega) (by omega)
 · rw [u64_mod]; omega
 · rw [u64_mod]; omega
theorem half_step {q r Y1 : Nat} (hq : 1 ≤ q) (hq2 : q ≤ 4294967297) (hr : r < 4294967296) (hY1 : Y1 < 4294967296) : ∃ p r2 : Nat, IntKind.u64.wrap ((q : Int) - 1) = (p : Int) ∧ IntKind.u64.wrap ((r : Int) + (Y1 : Int)) = (r2 : Int) ∧ p = q - 1 ∧ r2 = r + Y1 := by
 refine ⟨q - 1, r + Y1, ?_, ?_, rfl, rfl⟩
 · rw [u64_mod]; omega
 · rw [u64_mod]; omega
theorem d64_end {N y s Y U u1 u0 v1 v0 R R0 : Nat} (hy : 0 < y) (hY : Y = y * 2 ^ s) (hY64 : Y < 18446744073709551616) (hU : U < Y) (hN : N * 2 ^ s = (U * 4294967296 + u1) * 4294967296 + u0) (hu1 : u1 < 4294967296) (hu0 : u0 < 4294967296)
 (h1 : v1 = (U * 4294967296 + u1) / Y) (h2 : R = (U * 4294967296 + u1) % Y) (h3 : v0 = (R * 4294967296 + u0) / Y) (h4 : R0 = (R * 4294967296 + u0) % Y) :
 v1 * 4294967296 + v0 = N / y ∧ R0 / 2 ^ s = N % y ∧ v1 < 4294967296 ∧ v0 < 4294967296 := by
 have hY0 : 0 < Y := by omega
 have e1 := Nat.div_add_mod (U * 4294967296 + u1) Y
 have e2 := Nat.div_add_mod (R * 4294967296 + u0) Y
 have l1 : v1 < 4294967296 := by
  rw [h1]; refine (Nat.div_lt_iff_lt_mul hY0).2 ?_
  have : (U + 1) * 4294967296 ≤ Y * 4294967296 := Nat.mul_le_mul_right _ hU
  rw [Nat.mul_comm 4294967296]; omega
 have l2 : v0 < 4294967296 := by
  rw [h3]; refine (Nat.div_lt_iff_lt_mul hY0).2 ?_
  have hR : R < Y := by rw [h2]; exact Nat.mod_lt _ hY0
  have : (R + 1) * 4294967296 ≤ Y * 4294967296 := Nat.mul_le_mul_right _ hR
  rw [Nat.mul_comm 4294967296]; omega
 rw [← h1, ← h2, Nat.mul_comm] at e1
 rw [← h3, ← h4, Nat.mul_comm] at e2
 obtain ⟨t1, t2⟩ := Knu.two_places (N := N * 2 ^ s) (D := Y) (B := 4294967296) hY0 hN e1.symm e2.symm (by rw [h4]; exact Nat.mod_lt _ hY0)
 obtain ⟨s1, s2⟩ := Knu.shifted (N := N) (D := y) (s := s) hy
 rw [← hY] at s1 s2
 rw [t1] at s1
 rw [t2] at s2
 exact ⟨s1, s2, l1, l2⟩
theorem div64_zero (lo y : Nat) (h0 : 0 < y) (hy : y < 18446744073709551616) (hl : lo < 18446744073709551616) (w : World) :
 Calls Tryz.prog 152 #[.int .u64 0, .int .u64 (lo : Int), .int .u64 (y : Int)] w fun e w' => e = .returned (.tuple #[.int .u64 ((lo / y : Nat) : Int), .int .u64 ((lo % y : Nat) : Int)]) ∧ ∃ n, w' = w.drewN n := by
 have y0 : ((y : Int) == 0) = false := by simp; omega
 have y1 : decide ((y : Int) ≤ 0) = false := by simp; omega
 go_enter Tryz.func152, Tryz.ntmps152
 go_wp2
 repeat (go_quiet (fail); try go_wp2)
 go_ret2
 have z1 : IntKind.u64.wrap ((lo : Int) / (y : Int)) = ((lo / y : Nat) : Int) := by rw [← Int.natCast_ediv]; have := Nat.div_le_self lo y; generalize lo / y = z at *; exact w64c (by omega) (by omega)
 refine ⟨?_, ⟨_, rfl⟩⟩
 show Ending.returned (.tuple #[.int .u64 (IntKind.u64.wrap ((lo : Int) / (y : Int))), .int .u64 ((lo : Int) % (y : Int))]) = _
 rw [z1, ← Int.natCast_emod]
theorem div64_pos (hi lo y s : Nat) (h0 : 0 < hi) (hhi : hi < y) (hy : y < 18446744073709551616) (hl : lo < 18446744073709551616) (hs : 64 - (Lib.bitLen y : Int) = (s : Int)) (w : World) :
 Calls Tryz.prog 152 #[.int .u64 (hi : Int), .int .u64 (lo : Int), .int .u64 (y : Int)] w fun e w' => e = .returned (.tuple #[.int .u64 (((hi * 18446744073709551616 + lo) / y : Nat) : Int), .int .u64 (((hi * 18446744073709551616 + lo) % y : Nat) : Int)]) ∧ ∃ n, w' = w.drewN n := by
 have y0 : ((y : Int) == 0) = false := by simp; omega
 have y1 : decide ((y : Int) ≤ (hi : Int)) = false := by simp; omega
 have h00 : ((hi : Int) == 0) = false := by simp; omega
 have hs2 : s = 64 - bl y := by have := bitLen_bl hy; have := (bl_le_iff (n := y) (k := 64)).2 hy; omega
 obtain ⟨Y, Y1, Y0, U, H, T, L, u1, u0, eY, lY, dY, lY0, lY1, lY1', eH, lH, eT, lT, eU, lU, eL, dL, lu1, lu0, eN, hs63⟩ := d64_set h0 hhi hy hl hs2
 have qq1 : IntKind.u64.wrap ((y : Int) * 2 ^ s) = (Y : Int) := by
  have z : (y : Int) * 2 ^ s = (Y : Int) := by rw [eY, Int.natCast_mul, Int.natCast_pow]; rfl
  rw [z]; exact w64c (by omega) (by omega)
 have q2 : (Y : Int) / 4294967296 = (Y1 : Int) := by omega
 have q3 : bits .and .u64 (Y : Int) 4294967295 = (Y0 : Int) := by
  have := bits_and_u64_nat Y 4294967295 lY (by decide)
  rw [show (4294967295 : Nat) = 2 ^ 32 - 1 from rfl, Nat.and_two_pow_sub_one_eq_mod] at this
  refine Eq.trans this ?_
  omega
 have q4 : IntKind.u64.wrap ((hi : Int) * 2 ^ s) = (H : Int) := by
  have z : (hi : Int) * 2 ^ s = (H : Int) := by rw [eH, Int.natCast_mul, Int.natCast_pow]; rfl
  rw [z]; exact w64c (by omega) (by omega)
 have q5 : (lo : Int) / 2 ^ (64 - s) = (T : Int) := by rw [eT]; simp
 have q6 : bits .or .u64 (H : Int) (T : Int) = (U : Int) := by rw [bits_or_u64_nat H T lH lT, eU]
 have q7 : IntKind.u64.wrap ((lo : Int) * 2 ^ s) = (L : Int) := by
  have z : (lo : Int) * 2 ^ s = ((lo * 2 ^ s : Nat) : Int) := by rw [Int.natCast_mul, Int.natCast_pow]; rfl
  rw [z, u64_mod]; omega
 have q8 : (L : Int) / 4294967296 = (u1 : Int) := by omega
 have q9 : bits .and .u64 (L : Int) 4294967295 = (u0 : Int) := by
  have := bits_and_u64_nat L 4294967295 (by omega) (by decide)
  rw [show (4294967295 : Nat) = 2 ^ 32 - 1 from rfl, Nat.and_two_pow_sub_one_eq_mod] at this
  refine Eq.trans this ?_
  omega
 have y10 : ((Y1 : Int) == 0) = false := by simp; omega
 have hL64 : L < 18446744073709551616 := by omega
 have EY := yk eY
 have EH := yk eH
 have ET := yk eT
 have EL := yk eL
 have EN := yk eN
 have DY := yk dY
 have DL := yk dL
 clear eY eH eT eL eN hs2 eU dY dL
 obtain ⟨g1, r1, q10, q11, I11, I21, i31, i41⟩ := half_quot (u := u1) DY.out lY0 lY1 lY1' lU lu1
 go_enter Tryz.func152, Tryz.ntmps152
 go_wp2_with (go_at_call 149; refine (Tryz.bits_LeadingZeros64 (y : Int) w (by omega) (by omega)).mono ?_; rintro e w1 ⟨rfl, rfl⟩; rw [show ((y : Int)).toNat = y by omega, hs])
 rename_i K1 h1
 have KEY1 : ∀ {v : Nat} {z16 z19 z20 z21 z22 z23 z24 z25 z26 z27 z28 z29 z30 z31 z32 z33 z34 z35 z36 z37 z38 z39 z40 z41 z42 z43 z44 z45 z46 z47 z48 z49 z50 z51 z52 z53 z54 z55 z56 z57 z58 z59 z60 z61 z62 z63 z64 z65 z66 z67 z68 z69 z70 z71 z72 z73 z74 z75 z76 z77 z78 z79 z80 z81 z82 z83 z84 z85 : Value}, Aside0 (v = (U * 4294967296 + u1) / Y) → Aside0 (U * 4294967296 + u1 - v * Y = (U * 4294967296 + u1) % Y) → U * 4294967296 + u1 - v * Y < Y → v * Y ≤ U * 4294967296 + u1 → K1 { tmps := #[.int .u64 (hi : Int), .int .u64 (lo : Int), .int .u64 (Y : Int), undef, undef, undef, .int .u64 0, .int .u64 0, .int .u64 (s : Int), .int .u64 (Y1 : Int), .int .u64 (Y0 : Int), .int .u64 (U : Int), .int .u64 (L : Int), .int .u64 (u1 : Int), .int .u64 (u0 : Int), .int .u64 (v : Int), z16, undef, undef, z19, z20, z21, z22, z23, z24, z25, z26, z27, z28, z29, z30, z31, z32, z33, z34, z35, z36, z37, z38, z39, z40, z41, z42, z43, z44, z45, z46, z47, z48, z49, z50, z51, z52, z53, z54, z55, z56, z57, z58, z59, z60, z61, z62, z63, z64, z65, z66, z67, z68, z69, z70, z71, z72, z73, z74, z75, z76, z77, z78, z79, z80, z81, z82, z83, z84, z85, undef, undef, undef, undef, undef, undef, undef, undef, undef, undef, undef, undef, undef, undef, undef, undef, undef, undef, undef, undef, undef, undef, undef, undef, undef, undef, undef, undef, undef, undef, undef, undef, undef, undef, undef, undef, undef, undef, undef, undef, undef, undef, undef, undef, undef, undef, undef, undef, undef], defers := [] } w1 := by
  intro v z16 z19 z20 z21 z22 z23 z24 z25 z26 z27 z28 z29 z30 z31 z32 z33 z34 z35 z36 z37 z38 z39 z40 z41 z42 z43 z44 z45 z46 z47 z48 z49 z50 z51 z52 z53 z54 z55 z56 z57 z58 z59 z60 z61 z62 z63 z64 z65 z66 z67 z68 z69 z70 z71 z72 z73 z74 z75 z76 z77 z78 z79 z80 z81 z82 z83 z84 z85 X1 W1 yy zz
  refine h1 _ _ ?_
  clear h1
  obtain ⟨A1, B1, C1, R1, n1, n2, n3, n4, n9x⟩ := half_rest zz yy lY
  have lR1 : R1 < Y := by rw [n9x]; exact yy
  have N9x := yk n9x
  clear n9x
  obtain ⟨g2, r2, q12, q13, I12, I22, i32, i42⟩ := half_quot (u := u0) DY.out lY0 lY1 lY1' lR1 lu0
  clear yy zz
  go_wp2
  rename_i K2 h2
  have KEY2 : ∀ {v0 : Nat} {z16 z19 z20 z21 z22 z23 z24 z25 z26 z27 z28 z29 z30 z31 z32 z33 z34 z35 z36 z37 z38 z39 z40 z41 z42 z43 z44 z45 z46 z47 z48 z49 z50 z51 z52 z53 z54 z55 z56 z57 z58 z59 z60 z61 z62 z63 z64 z65 z66 z67 z68 z69 z70 z71 z72 z73 z74 z75 z76 z77 z78 z79 z80 z81 z82 z83 z84 z85 z86 z87 z88 z89 z90 z91 z92 z93 z94 z95 z96 z97 z98 z99 z100 z101 z102 z103 z104 z105 z106 z107 z108 z109 z110 z111 z112 z113 z114 z115 z116 z117 z118 z119 z120 : Value}, Aside0 (v0 = (R1 * 4294967296 + u0) / Y) → Aside0 (R1 * 4294967296 + u0 - v0 * Y = (R1 * 4294967296 + u0) % Y) → R1 * 4294967296 + u0 - v0 * Y < Y → v0 * Y ≤ R1 * 4294967296 + u0 → K2 { tmps := #[.int .u64 (hi : Int), .int .u64 (lo : Int), .int .u64 (Y : Int), undef, undef, undef, .int .u64 0, .int .u64 0, .int .u64 (s : Int), .int .u64 (Y1 : Int), .int .u64 (Y0 : Int), .int .u64 (U : Int), .int .u64 (L : Int), .int .u64 (u1 : Int), .int .u64 (u0 : Int), .int .u64 (v : Int), z16, .int .u64 (R1 : Int), .int .u64 (v0 : Int), z19, z20, z21, z22, z23, z24, z25, z26, z27, z28, z29, z30, z31, z32, z33, z34, z35, z36, z37, z38, z39, z40, z41, z42, z43, z44, z45, z46, z47, z48, z49, z50, z51, z52, z53, z54, z55, z56, z57, z58, z59, z60, z61, z62, z63, z64, z65, z66, z67, z68, z69, z70, z71, z72, z73, z74, z75, z76, z77, z78, z79, z80, z81, z82, z83, z84, z85, z86, z87, z88, z89, z90, z91, z92, z93, z94, z95, z96, z97, z98, z99, z100, z101, z102, z103, z104, z105, z106, z107, z108, z109, z110, z111, z112, z113, z114, z115, z116, z117, z118, z119, z120, undef, undef, undef, undef, undef, undef, undef, undef, undef, undef, undef, undef, undef, undef], defers := [] } w1 := by
   intro v0 z16 z19 z20 z21 z22 z23 z24 z25 z26 z27 z28 z29 z30 z31 z32 z33 z34 z35 z36 z37 z38 z39 z40 z41 z42 z43 z44 z45 z46 z47 z48 z49 z50 z51 z52 z53 z54 z55 z56 z57 z58 z59 z60 z61 z62 z63 z64 z65 z66 z67 z68 z69 z70 z71 z72 z73 z74 z75 z76 z77 z78 z79 z80 z81 z82 z83 z84 z85 z86 z87 z88 z89 z90 z91 z92 z93 z94 z95 z96 z97 z98 z99 z100 z101 z102 z103 z104 z105 z106 z107 z108 z109 z110 z111 z112 z113 z114 z115 z116 z117 z118 z119 z120 X2 W2 yy zz
   refine h2 _ _ ?_
   clear h2
   obtain ⟨A2, B2, C2, R2, n5, n6, n7, n8, n9⟩ := half_rest zz yy lY
   obtain ⟨n12, n13, n14, n15⟩ := d64_end (N := hi * 18446744073709551616 + lo) (v1 := v) (v0 := v0) (R := R1) (R0 := R2) (show 0 < y by omega) EY.out lY lU EN.out lu1 lu0 X1.out (by rw [N9x.out]; exact W1.out) X2.out (by rw [n9]; exact W2.out)
   have N12 := yk n12
   have N13 := yk n13
   clear n9 n12 n13
   go_wp2
   repeat (go_quiet (fail); try go_wp2)
   go_ret2
   refine ⟨?_, ⟨0, rfl⟩⟩
   show Ending.returned (.tuple #[.int .u64 ((v : Int) * 4294967296 + (v0 : Int)), .int .u64 ((R2 : Int) / 2 ^ s)]) = _
   have z1 : ((v : Int) * 4294967296 + (v0 : Int)) = (((hi * 18446744073709551616 + lo) / y : Nat) : Int) := by rw [← N12.out]; simp
   have z2 : (R2 : Int) / 2 ^ s = (((hi * 18446744073709551616 + lo) % y : Nat) : Int) := by rw [← N13.out, Int.natCast_ediv, Int.natCast_pow]; rfl
   rw [z1, z2]
   first | done | simp
  clear h2
  go_loopw [18, 16] (fun v18 v16 wx => ∃ q r : Nat, v18 = .int .u64 q ∧ v16 = .int .u64 r ∧ q ≤ 4294967297 ∧ r < 4294967296 ∧ wx = w1 ∧ Aside0 (q * Y1 + r = R1) ∧ Aside0 ((R1 * 4294967296 + u0) / Y ≤ q)) (fun v18 _ _ => (intOf v18).toNat)
  case atStart => exact ⟨g2, r2, rfl, rfl, i32, i42, rfl, I12, I22⟩
  case round =>
   obtain ⟨q2, r2, rfl, rfl, hq2, hr2, rfl, J2, K2⟩ := hrel
   by_cases hA2 : (4294967296 : Int) ≤ (q2 : Int)
   · obtain ⟨j2, k2⟩ := half_great DY.out (show 0 < Y1 by omega) lR1 lu0 J2.out (.inl (by omega))
     obtain ⟨p2, s2, a2, b2, c2, d2⟩ := half_step k2 hq2 hr2 lY1'
     have aa2 : (q2 : Int) - 1 = (p2 : Int) := by omega
     have bb2 : (r2 : Int) + (Y1 : Int) = (s2 : Int) := by omega
     have lp2 : p2 ≤ 4294967296 := by omega
     have C2_ := yk c2
     have D2_ := yk d2
     have J2_ := yk j2
     clear c2 d2 j2
     by_cases hC2 : (4294967296 : Int) ≤ (s2 : Int)
     · have E2 := half_break DY.out (show 0 < Y1 by omega) lY0 J2.out k2 hq2 J2_.out (by have := D2_.out; omega)
       rw [← C2_.out] at E2
       obtain ⟨xx2, yy2, zz2, ww2⟩ := E2
       have X2 := yk xx2
       have W2 := yk ww2
       clear xx2 ww2
       go_wp2
       exact KEY2 X2 W2 yy2 zz2
     · go_wp2
       go_roundw
       case rel => exact ⟨p2, s2, by go_num, by go_num, by omega, by omega, by first | trivial | rfl, ⟨by
        have e := J2.out
        obtain ⟨m, hm⟩ : ∃ m, q2 = m + 1 := ⟨q2 - 1, by omega⟩
        rw [hm, Nat.add_mul, Nat.one_mul] at e
        rw [C2_.out, D2_.out, hm, Nat.add_sub_cancel]; omega⟩, ⟨by rw [C2_.out]; exact J2_.out⟩⟩
       case measure => simp [intOf]; omega
   · obtain ⟨m2, t2, v2, e2, f2, g2, h2, i2⟩ := half_test (show q2 < 4294967296 by omega) lY0 hr2 lu0
     clear f2 g2
     by_cases hB2 : 4294967296 * (r2 : Int) + (u0 : Int) < (m2 : Int)
     · obtain ⟨j2, k2⟩ := half_great DY.out (show 0 < Y1 by omega) lR1 lu0 J2.out (.inr (by have z1 := h2.out; omega))
       obtain ⟨p2, s2, a2, b2, c2, d2⟩ := half_step k2 hq2 hr2 lY1'
       have aa2 : (q2 : Int) - 1 = (p2 : Int) := by omega
       have bb2 : (r2 : Int) + (Y1 : Int) = (s2 : Int) := by omega
       have lp2 : p2 ≤ 4294967296 := by omega
       have C2_ := yk c2
       have D2_ := yk d2
       have J2_ := yk j2
       clear c2 d2 j2
       by_cases hC2 : (4294967296 : Int) ≤ (s2 : Int)
       · have E2 := half_break DY.out (show 0 < Y1 by omega) lY0 J2.out k2 hq2 J2_.out (by have := D2_.out; omega)
         rw [← C2_.out] at E2
         obtain ⟨xx2, yy2, zz2, ww2⟩ := E2
         have X2 := yk xx2
         have W2 := yk ww2
         clear xx2 ww2
         go_wp2
         exact KEY2 X2 W2 yy2 zz2
       · go_wp2
         go_roundw
         case rel => exact ⟨p2, s2, by go_num, by go_num, by omega, by omega, by first | trivial | rfl, ⟨by
          have e := J2.out
          obtain ⟨m, hm⟩ : ∃ m, q2 = m + 1 := ⟨q2 - 1, by omega⟩
          rw [hm, Nat.add_mul, Nat.one_mul] at e
          rw [C2_.out, D2_.out, hm, Nat.add_sub_cancel]; omega⟩, ⟨by rw [C2_.out]; exact J2_.out⟩⟩
         case measure => simp [intOf]; omega
     · have E2 := half_end DY.out (show 0 < Y1 by omega) J2.out K2.out (by have z1 := h2.out; omega)
       obtain ⟨xx2, yy2, zz2, ww2⟩ := E2
       have X2 := yk xx2
       have W2 := yk ww2
       clear xx2 ww2
       go_wp2
       exact KEY2 X2 W2 yy2 zz2
 clear h1
 go_loopw [15, 16] (fun v15 v16 wx => ∃ q r : Nat, v15 = .int .u64 q ∧ v16 = .int .u64 r ∧ q ≤ 4294967297 ∧ r < 4294967296 ∧ wx = w1 ∧ Aside0 (q * Y1 + r = U) ∧ Aside0 ((U * 4294967296 + u1) / Y ≤ q)) (fun v15 _ _ => (intOf v15).toNat)
 case atStart => exact ⟨g1, r1, rfl, rfl, i31, i41, rfl, I11, I21⟩
 case round =>
  obtain ⟨q1, r1, rfl, rfl, hq1, hr1, rfl, J1, K1⟩ := hrel
  by_cases hA1 : (4294967296 : Int) ≤ (q1 : Int)
  · obtain ⟨j1, k1⟩ := half_great DY.out (show 0 < Y1 by omega) lU lu1 J1.out (.inl (by omega))
    obtain ⟨p1, s1, a1, b1, c1, d1⟩ := half_step k1 hq1 hr1 lY1'
    have aa1 : (q1 : Int) - 1 = (p1 : Int) := by omega
    have bb1 : (r1 : Int) + (Y1 : Int) = (s1 : Int) := by omega
    have lp1 : p1 ≤ 4294967296 := by omega
    have C1_ := yk c1
    have D1_ := yk d1
    have J1_ := yk j1
    clear c1 d1 j1
    by_cases hC1 : (4294967296 : Int) ≤ (s1 : Int)
    · have E1 := half_break DY.out (show 0 < Y1 by omega) lY0 J1.out k1 hq1 J1_.out (by have := D1_.out; omega)
      rw [← C1_.out] at E1
      obtain ⟨xx1, yy1, zz1, ww1⟩ := E1
      have X1 := yk xx1
      have W1 := yk ww1
      clear xx1 ww1
      go_wp2
      exact KEY1 X1 W1 yy1 zz1
    · go_wp2
      go_roundw
      case rel => exact ⟨p1, s1, by go_num, by go_num, by omega, by omega, by first | trivial | rfl, ⟨by
       have e := J1.out
       obtain ⟨m, hm⟩ : ∃ m, q1 = m + 1 := ⟨q1 - 1, by omega⟩
       rw [hm, Nat.add_mul, Nat.one_mul] at e
       rw [C1_.out, D1_.out, hm, Nat.add_sub_cancel]; omega⟩, ⟨by rw [C1_.out]; exact J1_.out⟩⟩
      case measure => simp [intOf]; omega
  · obtain ⟨m1, t1, v1, e1, f1, g1, h1, i1⟩ := half_test (show q1 < 4294967296 by omega) lY0 hr1 lu1
    clear f1 g1
    by_cases hB1 : 4294967296 * (r1 : Int) + (u1 : Int) < (m1 : Int)
    · obtain ⟨j1, k1⟩ := half_great DY.out (show 0 < Y1 by omega) lU lu1 J1.out (.inr (by have z1 := h1.out; omega))
      obtain ⟨p1, s1, a1, b1, c1, d1⟩ := half_step k1 hq1 hr1 lY1'
      have aa1 : (q1 : Int) - 1 = (p1 : Int) := by omega
      have bb1 : (r1 : Int) + (Y1 : Int) = (s1 : Int) := by omega
      have lp1 : p1 ≤ 4294967296 := by omega
      have C1_ := yk c1
      have D1_ := yk d1
      have J1_ := yk j1
      clear c1 d1 j1
      by_cases hC1 : (4294967296 : Int) ≤ (s1 : Int)
      · have E1 := half_break DY.out (show 0 < Y1 by omega) lY0 J1.out k1 hq1 J1_.out (by have := D1_.out; omega)
        rw [← C1_.out] at E1
        obtain ⟨xx1, yy1, zz1, ww1⟩ := E1
        have X1 := yk xx1
        have W1 := yk ww1
        clear xx1 ww1
        go_wp2
        exact KEY1 X1 W1 yy1 zz1
      · go_wp2
        go_roundw
        case rel => exact ⟨p1, s1, by go_num, by go_num, by omega, by omega, by first | trivial | rfl, ⟨by
         have e := J1.out
         obtain ⟨m, hm⟩ : ∃ m, q1 = m + 1 := ⟨q1 - 1, by omega⟩
         rw [hm, Nat.add_mul, Nat.one_mul] at e
         rw [C1_.out, D1_.out, hm, Nat.add_sub_cancel]; omega⟩, ⟨by rw [C1_.out]; exact J1_.out⟩⟩
        case measure => simp [intOf]; omega
    · have E1 := half_end DY.out (show 0 < Y1 by omega) J1.out K1.out (by have z1 := h1.out; omega)
      obtain ⟨xx1, yy1, zz1, ww1⟩ := E1
      have X1 := yk xx1
      have W1 := yk ww1
      clear xx1 ww1
      go_wp2
      exact KEY1 X1 W1 yy1 zz1
theorem div64_any (hi lo y : Nat) (hhi : hi < y) (hy : y < 18446744073709551616) (hl : lo < 18446744073709551616) (w : World) :
 Calls Tryz.prog 152 #[.int .u64 (hi : Int), .int .u64 (lo : Int), .int .u64 (y : Int)] w fun e w' => e = .returned (.tuple #[.int .u64 (((hi * 18446744073709551616 + lo) / y : Nat) : Int), .int .u64 (((hi * 18446744073709551616 + lo) % y : Nat) : Int)]) ∧ ∃ n, w' = w.drewN n := by
 by_cases h : hi = 0
 · subst h
   rw [Nat.zero_mul, Nat.zero_add]
   exact div64_zero lo y hhi hy hl w
 · have := bitLen_bl hy
   have := (bl_le_iff (n := y) (k := 64)).2 hy
   exact div64_pos hi lo y (64 - bl y) (by omega) hhi hy hl (by omega) w
theorem drop_word {l : List Nat} {k x : Nat} (h : l[k]? = some x) : nv (l.drop k) = x + 18446744073709551616 * nv (l.drop (k + 1)) := by
 obtain ⟨hk, rfl⟩ := List.getElem?_eq_some_iff.1 h
 rw [List.drop_eq_getElem_cons hk]
 rfl
theorem drop_set_word {l : List Nat} {k y : Nat} (h : k < l.length) : nv ((l.set k y).drop k) = y + 18446744073709551616 * nv (l.drop (k + 1)) := by
 rw [drop_word (x := y) (List.getElem?_set_self h), List.drop_set_of_lt (by omega)]
theorem short_any (l : List Nat) (A : Option Addr) (n c d : Nat) (hn : l.length = n) (w : World) (hr : kU.C w A n l) (hc : n ≤ c) (hw : Wf l) (hl : n ≤ 2147483648) (hd : 0 < d) (hd2 : d < 18446744073709551616) :
 Calls Tryz.prog 147 #[.slice A n c, .int .u64 (d : Int)] w fun e w' => ∃ v, e = .returned (.tuple #[v, .int .u64 ((nv l % d : Nat) : Int)]) ∧ PL w' w.heap.size v (limbs (nv l / d)) ∧ BL w w' := by
 have HR := yk hr
 have HW := yk hw
 have HN := yk hn
 clear hr hw hn
 by_cases hn0 : n = 0
 · subst hn0
   have HL0 := yk (List.length_eq_zero_iff.1 HN.out)
   have HV0 := yk (show limbs (nv l / d) = limbs (nv ([] : List Nat)) by rw [HL0.out]; exact congrArg limbs (Nat.zero_div _))
   have HM0 := yk (show nv l % d = 0 by rw [HL0.out]; exact Nat.zero_mod _)
   go_enter Tryz.func147, Tryz.ntmps147
   go_wp2_with ((with_reducible refine gate_dst (N := 11) rfl ?_); go_must (refine Kd.R_make kU (w0 := w) w.heap.size 64 rfl rfl 22 (.tmp 10) (.tmp 10) rfl ((0 : Nat) : Int) ?mx ?my Tryz.underlying22 (.int .u64 0) 8 info_word rfl (by decide) (by decide) 0 (ok := fun _ => True) (okp := fun _ => False) ?mz (fun _ h => h.elim) trivial (by omega) ?ml yr (Nat.le_refl _) ?_; (case mx => rfl); (case my => rfl); (case mz => rfl); (case ml => omega); intro v_3 w_3 ho hb hg hown; obtain ⟨B, cap, rfl, hcap, hC⟩ := Kd.R_reads ho; rw [show (List.replicate (((0 : Nat) : Int)).toNat (0 : Nat)) = ([] : List Nat) by simp] at ho ⊢; have HO := yk ho; have HB := yk hb; clear ho hb hg hown hC hcap))
   go_loopw [7, 8] (fun v7 v8 wr => v7 = .int .u64 0 ∧ v8 = .int .i64 (-1) ∧ wr = w_3) (fun _ _ _ => 0)
   case atStart => exact ⟨rfl, by go_num, rfl⟩
   case round =>
    obtain ⟨rfl, rfl, rfl⟩ := hrel
    have QT := yk (trim_own HO.out .nil (by decide))
    go_wp2_with (go_at_call 109; refine QT.out.mono ?_; rintro e w5 ⟨v, rfl, ho, n5, rfl⟩; have HOO := yk ho; clear ho)
    go_ret2
    exact ⟨_, by rw [HM0.out]; rfl, by rw [HV0.out]; exact HOO.out, pw_below_drewN HB.out _⟩
 have hnp : 0 < n := by omega
 clear hn0
 go_enter Tryz.func147, Tryz.ntmps147
 go_wp2_with ((with_reducible refine gate_dst (N := 11) rfl ?_); go_must (refine Kd.R_make kU (w0 := w) w.heap.size 64 rfl rfl 22 (.tmp 10) (.tmp 10) rfl (n : Int) ?mx ?my Tryz.underlying22 (.int .u64 0) 8 info_word rfl (by decide) (by decide) 0 (ok := fun _ => True) (okp := fun _ => False) ?mz (fun _ h => h.elim) trivial (by omega) ?ml yr (Nat.le_refl _) ?_; (case mx => rfl); (case my => rfl); (case mz => rfl); (case ml => omega); intro v_3 w_3 ho hb hg hown; obtain ⟨g, cap, rfl, hg1, hg2, _⟩ := Kd.R_form ho (by simp; omega); rw [show (List.replicate ((n : Int)).toNat (0 : Nat)).length = n by simp] at ho ⊢; have HO := yk ho; have HB := yk hb; have HG := yk hg1; clear ho hb hg hown hg1 hg2))
 go_loopw [7, 8] (fun v7 v8 wr => ∃ (k r : Nat) (o : List Nat), v7 = .int .u64 r ∧ v8 = .int .i64 ((k : Int) - 1) ∧ k ≤ n ∧ r < d ∧ Aside0 (BL w wr) ∧ Aside0 (kU.R 64 wr w.heap.size (fun _ => True) (.slice (some ⟨g, 0, none⟩) n cap) o) ∧ Aside0 (o.length = n ∧ Wf o ∧ nv (l.drop k) = nv (o.drop k) * d + r)) (fun _ v8 _ => (intOf v8 + 1).toNat)
 case atStart => exact ⟨n, 0, _, rfl, by go_num, Nat.le_refl _, hd, HB, HO, ⟨by simp, Wf.replicate _, by rw [List.drop_eq_nil_of_le (by have := HN.out; omega), List.drop_eq_nil_of_le (by simp)]; simp [nv]⟩⟩
 case round =>
  obtain ⟨k, r, o, rfl, rfl, hk, hrd, HB1, HO1, HG1⟩ := hrel
  by_cases hk0 : k = 0
  · subst hk0
    have HF := yk (show nv o = nv l / d ∧ r = nv l % d by
     have h := HG1.out.2.2
     rw [List.drop_zero, List.drop_zero] at h
     rw [h, Nat.mul_comm, Nat.mul_add_div (by omega), Nat.div_eq_of_lt hrd, Nat.add_zero, Nat.mul_add_mod, Nat.mod_eq_of_lt hrd]
     exact ⟨rfl, rfl⟩)
    have QT := yk (trim_own HO1.out HG1.out.2.1 (by omega))
    go_wp2_with (go_at_call 109; refine QT.out.mono ?_; rintro e w5 ⟨v, rfl, ho, n5, rfl⟩; rw [HF.out.1] at ho; have HOO := yk ho; clear ho)
    go_ret2
    exact ⟨_, by rw [← HF.out.2]; rfl, HOO.out, pw_below_drewN HB1.out _⟩
  · obtain ⟨i, rfl⟩ : ∃ i, k = i + 1 := ⟨k - 1, by omega⟩
    clear hk0
    have hi : ((i + 1 : Nat) : Int) - 1 = (i : Int) := by omega
    rw [hi]
    have hin : i < n := by omega
    obtain ⟨ad, x, hA', hx0, hcell⟩ := at_word (Kd.C_below HR.out HB1.out) HN.out i hin
    subst hA'
    have HX := yk hx0
    have hx64 : x < 18446744073709551616 := HW.out.get hx0
    clear hx0
    obtain ⟨q, hq⟩ : ∃ q, q = (r * 18446744073709551616 + x) / d := ⟨_, rfl⟩
    obtain ⟨s, hs⟩ : ∃ s, s = (r * 18446744073709551616 + x) % d := ⟨_, rfl⟩
    have hq64 : q < 18446744073709551616 := by
     rw [hq]
     refine (Nat.div_lt_iff_lt_mul hd).2 ?_
     have : (r + 1) * 18446744073709551616 ≤ d * 18446744073709551616 := Nat.mul_le_mul_right _ hrd
     rw [Nat.mul_comm]
     omega
    have hsd : s < d := by rw [hs]; exact Nat.mod_lt _ hd
    have HQ := yk (show x + 18446744073709551616 * r = q * d + s by have := Nat.div_add_mod (r * 18446744073709551616 + x) d; rw [← hq, ← hs, Nat.mul_comm] at this; omega)
    have QD := yk (fun m => div64_any r x d hrd hd2 hx64 m)
    rw [← hq, ← hs] at QD
    clear hq hs
    obtain ⟨hw1, hw2, -⟩ := put_word HO1.out hin
    have HPUT := yk (fun (nq u : Nat) => (put_word (Kd.R_drewN HO1.out nq) hin).2.2 u)
    go_wp2_with (go_at_call 152; refine (QD.out _).mono ?_; rintro e w5 ⟨rfl, n5, rfl⟩)
    go_roundw
    case rel =>
     refine ⟨i, s, o.set i q, rfl, by go_num, by omega, hsd, ⟨(pw_below_drewN HB1.out _).setCell HG.out _⟩, ⟨HPUT.out _ q⟩, ⟨by simp [HG1.out.1], HG1.out.2.1.set hq64, ?_⟩⟩
     rw [drop_word HX.out, drop_set_word (by have := HG1.out.1; omega), HG1.out.2.2]
     have hqq := HQ.out
     generalize nv (o.drop (i + 1)) = O
     rw [Nat.add_mul, Nat.mul_add, Nat.mul_assoc]
     omega
    case measure => simp [intOf]
open Go Go.RowKit Go.Proofs.YtkdicconchobfaaGreatDoorW.PrintWords Limb Exq
theorem short_w {a d : Nat} (he : a + 2 < 18446744073709551616) : IntKind.u64.wrap (IntKind.u64.wrap ((a : Int).tdiv ((d + 1 : Nat) : Int)) + 2) = ((a / (d + 1) + 2 : Nat) : Int) := by
 have := Nat.div_le_self a (d + 1)
 rw [tdiv_nat]
 generalize a / (d + 1) = k at *
 rw [u64_id (x := (k : Int)) (by omega) (by omega), u64_id (by omega) (by omega)]
 omega
theorem bl64 {x : Nat} (h : x < 18446744073709551616) : bl x ≤ 64 := bl_le_iff.2 h
theorem mul_up1 {x q : Nat} (h : (x % 2 ^ q != 0) = true) : x / 2 ^ q + 1 = up x (2 ^ q) := by
 unfold up; rw [if_neg (by simpa using h)]
theorem mul_up0 {x q : Nat} (h : (x % 2 ^ q != 0) = false) : x / 2 ^ q = up x (2 ^ q) := by
 unfold up; rw [if_pos (by simpa using h)]; rfl
def Fh146_0 := [ag [vs 0, vu 1], U, U, U, U, U, U, U, U]
def Fh146_1 := fs Fh146_0 [(1, ps 0 0), (2, lz)]
def Bh146_2 := [bb 101 [vs 0, vu 1]]
def Rh146_3 : Rg := ⟨2, 2, 0, Fh146_0, Bh146_2, [pa 0 0, pv (lz) 0], []⟩
def Fh146_4 := fs Fh146_1 [(2, vs 3), (3, ps 0 0), (4, vs 0), (5, ps 0 1), (6, vu 1), (7, vs 2), (8, vs 3)]
def Rh146_5 : Rg := ⟨7, 2, 1, Fh146_1, Bh146_2, [pv (ps 0 0) 0, pl (vs 0) 0 0 0, pv (ps 0 1) 0, pl (vu 1) 0 0 1, pc (vs 2) 0 110 [vu 1] 1, pc (vs 3) 1 103 [vs 0, vs 2] 1, pv (vs 3) 2], [4, 5]⟩
theorem high_f {v : Value} {f : Nat × Nat} {w : World} (h : CF w v f) (hf : bl f.1 ≤ 2147483648) (he : f.2 < 18446744073709551616) :
 Calls Tryz.prog 146 #[v] w fun en w' => ∃ v', en = .returned v' ∧ PN w' w.heap.size v' (f.1 + f.2) ∧ BL w w' := by
 obtain ⟨A0, n0, c0, rfl⟩ := h.ex
 refine fn_enter (u := 64) (fn := Tryz.f146) Tryz.func146 rfl Fh146_0 [.slice A0 n0 c0, .int .u64 (f.2 : Int)] (by kernel_rfl) rfl (fun a0 S0 r0 => ?_)
 refine wp_seq (rk Rh146_3 [] Fh146_1 Bh146_2 S0 r0 ?_)
 intro _ _ _ r1 S1
 refine wp_seq (rk Rh146_5 [] Fh146_4 Bh146_2 S1 r1 ?_)
 intro _ _ r2 _
 refine (of_n f.2 he _).mono ?_
 rintro _ V1 ⟨v, rfl, h1, k1⟩
 obtain ⟨A1, n1, c1, rfl⟩ := h1.ex
 replace h1 := h1.lower r2.fs
 refine ⟨[.slice A1 n1 c1], rfl, rfl, rfl, k1, ?_⟩
 intro _ _ r3 _
 refine (add_n (h.below r3.first).n (h1.lat (r3.at_ 0 _ rfl)).c (by omega) (by have := bl_le_iff.2 (show f.2 < 2 ^ 64 by omega); omega)).mono ?_
 rintro _ V2 ⟨v, rfl, h2, k2⟩
 obtain ⟨A2, n2, c2, rfl⟩ := h2.ex
 replace h2 := h2.lower r3.fs
 refine ⟨[.slice A2 n2 c2], rfl, rfl, rfl, k2, ?_⟩
 intro _ _ _ r4 S4
 exact rt S4 [.slice A2 n2 c2] (⟨_, rfl, (h2.lat (r4.at_ 1 _ rfl)), r4.first⟩)
theorem one_fin {w : World} {b q : Nat} {v : Value} (h : PN w b v (1 * 2 ^ q)) : PF w b (.agg #[v, .int .u64 0]) (2 ^ q, 0) := by
 rw [Nat.one_mul] at h; exact PF.mk (e := 0) h
def Fh121_0 := [vi 0, U, U, U, U, U, U]
def Fh121_1 := fs Fh121_0 [(2, ps 0 0)]
def Bh121_2 := [bb 101 [lz, lu 0]]
def Rh121_3 : Rg := ⟨1, 1, 0, Fh121_0, Bh121_2, [pa 0 0], []⟩
def Fh121_4 := fs Fh121_1 [(3, vs 1), (4, vi 0), (5, vs 2), (6, ag [vs 2, lu 0])]
def Rh121_5 : Rg := ⟨4, 1, 1, Fh121_1, Bh121_2, [pc (vs 1) 0 110 [lu 1] 1, pv (vi 0) 0, pc (vs 2) 1 131 [vs 1, vi 0] 1, pv (ag [vs 2, lu 0]) 2], [0, 2]⟩
def Bh121_6 := [bb 101 [vs 2, lu 0]]
theorem one_f (q : Nat) (hq : q ≤ 2147483648) (w : World) :
 Calls Tryz.prog 121 #[.int .i64 (q : Int)] w fun en w' => ∃ v', en = .returned v' ∧ PF w' w.heap.size v' (2 ^ q, 0) ∧ BL w w' := by
 refine fn_enter (u := 64) (fn := Tryz.f121) Tryz.func121 rfl Fh121_0 [.int .i64 (q : Int)] (by kernel_rfl) rfl (fun a0 S0 r0 => ?_)
 refine wp_seq (rk Rh121_3 [] Fh121_1 Bh121_2 S0 r0 ?_)
 intro _ _ _ r1 S1
 refine wp_seq (rk Rh121_5 [.st 0 0 [vs 2, lu 0]] Fh121_4 Bh121_6 S1 r1 ?_)
 intro _ _ r2 _
 refine (of_n 1 (by decide) _).mono ?_
 rintro _ V1 ⟨v, rfl, h1, k1⟩
 obtain ⟨A1, n1, c1, rfl⟩ := h1.ex
 replace h1 := h1.lower r2.fs
 refine ⟨[.slice A1 n1 c1], rfl, rfl, rfl, k1, ?_⟩
 intro _ _ r3 _
 refine (shl_n _ q rfl (h1.lat (r3.at_ 0 _ rfl)).c (by decide) (by omega)).mono ?_
 rintro _ V2 ⟨v, rfl, h2, k2⟩
 obtain ⟨A2, n2, c2, rfl⟩ := h2.ex
 replace h2 := h2.lower r3.fs
 refine ⟨[.slice A2 n2 c2], rfl, rfl, rfl, k2, ?_⟩
 intro _ _ _ r4 S4
 exact rt S4 [.agg #[.slice A2 n2 c2, .int .u64 0]] (⟨_, rfl, one_fin (h2.lat (r4.at_ 1 _ rfl)), r4.first⟩)
def Fh125_0 := [ag [vs 0, vu 1], ag [vs 2, vu 3], U, U, U, U, U, U, U, U, U, U, U, U, U, U]
def Fh125_1 := fs Fh125_0 [(2, ps 0 0), (3, ps 1 0), (4, ps 2 0)]
def Bh125_2 := [bb 101 [vs 0, vu 1], bb 101 [vs 2, vu 3], bb 101 [lz, lu 0]]
def Rh125_3 : Rg := ⟨3, 4, 0, Fh125_0, Bh125_2, [pa 0 0, pa 1 0, pa 2 0], []⟩
def Fh125_4 := fs Fh125_1 [(5, ps 0 0), (6, vs 0), (7, ps 1 0), (8, vs 2), (9, vs 4), (10, ps 0 1), (11, vu 1), (12, ps 1 1), (13, vu 3), (14, bo .add (vu 1) (vu 3)), (15, ag [vs 4, bo .add (vu 1) (vu 3)])]
def Rh125_5 : Rg := ⟨11, 4, 3, Fh125_1, Bh125_2, [pv (ps 0 0) 0, pl (vs 0) 0 0 0, pv (ps 1 0) 0, pl (vs 2) 0 1 0, pc (vs 4) 0 103 [vs 0, vs 2] 1, pv (ps 0 1) 0, pl (vu 1) 0 0 1, pv (ps 1 1) 0, pl (vu 3) 0 1 1, pv (bo .add (vu 1) (vu 3)) 0, pv (ag [vs 4, bo .add (vu 1) (vu 3)]) 1], [4]⟩
def Bh125_6 := [bb 101 [vs 0, vu 1], bb 101 [vs 2, vu 3], bb 101 [vs 4, bo .add (vu 1) (vu 3)]]
theorem add_f {u v : Value} {f g : Nat × Nat} {w : World} (h : CF w u f) (h' : CF w v g) (hf : bl f.1 ≤ 2147483648) (hg : bl g.1 ≤ 2147483648) (he : f.2 + g.2 < 18446744073709551616) :
 Calls Tryz.prog 125 #[u, v] w fun en w' => ∃ v', en = .returned v' ∧ PF w' w.heap.size v' (addF f g) ∧ BL w w' := by
 obtain ⟨A0, n0, c0, rfl⟩ := h.ex
 obtain ⟨A9, n9, c9, rfl⟩ := h'.ex
 refine fn_enter (u := 64) (fn := Tryz.f125) Tryz.func125 rfl Fh125_0 [.slice A0 n0 c0, .int .u64 (f.2 : Int), .slice A9 n9 c9, .int .u64 (g.2 : Int)] (by kernel_rfl) rfl (fun a0 S0 r0 => ?_)
 refine wp_seq (rk Rh125_3 [] Fh125_1 Bh125_2 S0 r0 ?_)
 intro _ _ _ r1 S1
 refine wp_seq (rk Rh125_5 [.st 2 0 [vs 4, bo .add (vu 1) (vu 3)]] Fh125_4 Bh125_6 S1 r1 ?_)
 intro _ _ r2 _
 refine (add_n (h.below r2.first).n (h'.below r2.first).n (by omega) (by omega)).mono ?_
 rintro _ V1 ⟨v, rfl, h1, k1⟩
 obtain ⟨A1, n1, c1, rfl⟩ := h1.ex
 replace h1 := h1.lower r2.fs
 refine ⟨[.slice A1 n1 c1], rfl, rfl, rfl, k1, ?_⟩
 intro _ _ _ r3 S3
 exact rt S3 [.agg #[.slice A1 n1 c1, .int .u64 (IntKind.u64.wrap ((f.2 : Int) + (g.2 : Int)))]] (⟨_, rfl, by have q := (h1.lat (r3.at_ 0 _ rfl)); rw [u64_id (by omega) (by omega), ← Int.natCast_add]; exact .mk q, r3.first⟩)
def Fh145_0 := [ag [vs 0, vu 1], vu 2, U, U, U, U, U, U, U, U, U, U]
def Fh145_1 := fs Fh145_0 [(2, ps 0 0), (4, ps 1 0)]
def Bh145_2 := [bb 101 [vs 0, vu 1], bb 101 [lz, lu 0]]
def Rh145_3 : Rg := ⟨2, 3, 0, Fh145_0, Bh145_2, [pa 0 0, pa 1 0], []⟩
def Fh145_4 := fs Fh145_1 [(5, ps 0 0), (6, vs 0), (7, ps 0 1), (8, vu 1), (9, vu 2), (10, bo .add (vu 1) (vu 2)), (11, ag [vs 0, bo .add (vu 1) (vu 2)])]
def Rh145_5 : Rg := ⟨7, 3, 2, Fh145_1, Bh145_2, [pv (ps 0 0) 0, pl (vs 0) 0 0 0, pv (ps 0 1) 0, pl (vu 1) 0 0 1, pv (vu 2) 0, pv (bo .add (vu 1) (vu 2)) 0, pv (ag [vs 0, bo .add (vu 1) (vu 2)]) 0], []⟩
def Bh145_6 := [bb 101 [vs 0, vu 1], bb 101 [vs 0, bo .add (vu 1) (vu 2)]]
theorem wider_f {u : Value} {f : Nat × Nat} {b n : Nat} {w : World} (h : PF w b u f) (he : f.2 + n < 18446744073709551616) :
 Calls Tryz.prog 145 #[u, .int .u64 (n : Int)] w fun en w' => ∃ v', en = .returned v' ∧ PF w' b v' (f.1, f.2 + n) ∧ BL w w' := by
 obtain ⟨A0, n0, c0, rfl⟩ := h.ex
 refine fn_enter (u := 64) (fn := Tryz.f145) Tryz.func145 rfl Fh145_0 [.slice A0 n0 c0, .int .u64 (f.2 : Int), .int .u64 (n : Int)] (by kernel_rfl) rfl (fun a0 S0 r0 => ?_)
 refine wp_seq (rk Rh145_3 [] Fh145_1 Bh145_2 S0 r0 ?_)
 intro _ _ _ r1 S1
 refine wp_seq (rk Rh145_5 [.st 1 0 [vs 0, bo .add (vu 1) (vu 2)]] Fh145_4 Bh145_6 S1 r1 ?_)
 intro _ _ _ r2 S2
 exact rt S2 [.agg #[.slice A0 n0 c0, .int .u64 (IntKind.u64.wrap ((f.2 : Int) + (n : Int)))]] (⟨_, rfl, by have q := (h.below r2.first).n; rw [u64_id (by omega) (by omega), ← Int.natCast_add]; exact .mk q, r2.first⟩)
theorem between_f {u v : Value} {a b k : Nat} {w : World} (h : PN w k u a) (h' : CN w v b) (hab : a ≤ b) (hb : bl b ≤ 2147483648) (hd : b - a < 18446744073709551616) :
 Calls Tryz.prog 143 #[u, v] w fun en w' => ∃ v', en = .returned v' ∧ PF w' k v' (a, b - a) ∧ BL w w' := by
 obtain ⟨A, n, c, rfl⟩ := h.ex
 have hc := h.c
 refine (between_any (a := a) (b := b) hd ⟨fun m hm => ?_⟩).mono ?_
 · by_cases h0 : b = 0
   · obtain ⟨B, nb, d, rfl, _, hn, _⟩ := h'
     rw [h0, limbs_zero] at hn
     subst hn
     rw [h0, Nat.zero_sub]
     exact psub_nil B A n d c m
   · exact sub_n (h'.below hm) (hc.below hm) (by omega) hab (by omega)
 · rintro en w' ⟨v', rfl, rfl, hb⟩
   exact ⟨_, rfl, .mk (h.below hb), hb⟩
theorem short_n {v : Value} {m d : Nat} {w : World} (h : CN w v m) (hm : bl m ≤ 2147483648) (hd : d + 1 < 18446744073709551616) :
 Calls Tryz.prog 147 #[v, .int .u64 ((d + 1 : Nat) : Int)] w fun en w' => ∃ v', en = .returned (.tuple #[v', .int .u64 ((m % (d + 1) : Nat) : Int)]) ∧ PN w' w.heap.size v' (m / (d + 1)) ∧ BL w w' := by
 obtain ⟨A, n, c, rfl, h1, rfl, h3⟩ := h
 have hl := len_le (K := 67108864) (m := m) (by omega)
 have := short_any (limbs m) A _ c (d + 1) rfl w h1 h3 (wf_limbs _) (by omega) (by omega) hd
 rw [nv_limbs] at this
 exact this
def Fh124_0 := [ag [vs 0, vu 1], vu 2, U, U, U, U, U, U, U, U, U, U, U, U, U, U, U, U, U, U, U]
def Fh124_1 := fs Fh124_0 [(2, ps 0 0), (4, ps 1 0)]
def Bh124_2 := [bb 101 [vs 0, vu 1], bb 101 [lz, lu 0]]
def Rh124_3 : Rg := ⟨2, 3, 0, Fh124_0, Bh124_2, [pa 0 0, pa 1 0], []⟩
def Fh124_4 := fs Fh124_1 [(5, vs 3), (6, vu 4), (7, tu [vs 3, vu 4]), (8, ps 0 0), (9, vs 0), (10, vu 2), (11, tu [vs 3, vu 4]), (12, vs 3), (13, vu 4)]
def Rh124_5 : Rg := ⟨9, 3, 2, Fh124_1, Bh124_2, [pv (ps 0 0) 0, pl (vs 0) 0 0 0, pv (vu 2) 0, pc (tu [vs 3, vu 4]) 0 147 [vs 0, vu 2] 2, pv (tu [vs 3, vu 4]) 1, pv (vs 3) 1, pv (vu 4) 1, pv (vs 3) 1, pv (vu 4) 1], [3]⟩
def Fh124_6 := fs Fh124_4 [(14, vs 3), (15, ps 0 1), (16, vu 1), (17, vu 2), (18, bo .quo (vu 1) (vu 2)), (19, bo .add (bo .quo (vu 1) (vu 2)) (lu 2)), (20, ag [vs 3, bo .add (bo .quo (vu 1) (vu 2)) (lu 2)])]
def Rh124_7 : Rg := ⟨7, 5, 2, Fh124_4, Bh124_2, [pv (vs 3) 0, pv (ps 0 1) 0, pl (vu 1) 0 0 1, pv (vu 2) 0, pv (bo .quo (vu 1) (vu 2)) 0, pv (bo .add (bo .quo (vu 1) (vu 2)) (lu 2)) 0, pv (ag [vs 3, bo .add (bo .quo (vu 1) (vu 2)) (lu 2)]) 0], []⟩
def Bh124_8 := [bb 101 [vs 0, vu 1], bb 101 [vs 3, bo .add (bo .quo (vu 1) (vu 2)) (lu 2)]]
theorem short_f {u : Value} {f : Nat × Nat} {d : Nat} {w : World} (h : CF w u f) (hf : bl f.1 ≤ 2147483648) (hd : d + 1 < 18446744073709551616) (he : f.2 + 2 < 18446744073709551616) :
 Calls Tryz.prog 124 #[u, .int .u64 ((d + 1 : Nat) : Int)] w fun en w' => ∃ v', en = .returned v' ∧ PF w' w.heap.size v' (shortF f (d + 1)) ∧ BL w w' := by
 obtain ⟨A0, n0, c0, rfl⟩ := h.ex
 refine fn_enter (u := 64) (fn := Tryz.f124) Tryz.func124 rfl Fh124_0 [.slice A0 n0 c0, .int .u64 (f.2 : Int), .int .u64 ((d + 1 : Nat) : Int)] (by kernel_rfl) rfl (fun a0 S0 r0 => ?_)
 refine wp_seq (rk Rh124_3 [] Fh124_1 Bh124_2 S0 r0 ?_)
 intro _ _ _ r1 S1
 refine wp_seq (rk Rh124_5 [] Fh124_4 Bh124_2 S1 r1 ?_)
 intro _ _ r2 _
 refine (short_n (h.below r2.first).n hf hd).mono ?_
 rintro _ V1 ⟨v, rfl, h1, k1⟩
 obtain ⟨A1, n1, c1, rfl⟩ := h1.ex
 replace h1 := h1.lower r2.fs
 refine ⟨[.slice A1 n1 c1, .int .u64 ((f.1 % (d + 1) : Nat) : Int)], rfl, rfl, rfl, k1, ?_⟩
 intro _ _ _ r3 S3
 refine wp_seq (rk Rh124_7 [.st 1 0 [vs 3, bo .add (bo .quo (vu 1) (vu 2)) (lu 2)]] Fh124_6 Bh124_8 S3 r3 ?_)
 intro _ _ _ r4 S4
 exact rt S4 [.agg #[.slice A1 n1 c1, .int .u64 (IntKind.u64.wrap ((IntKind.u64.wrap ((f.2 : Int).tdiv ((d + 1 : Nat) : Int))) + 2))]] (⟨_, rfl, by have q := (h1.lat (r4.at_ 0 _ rfl)); rw [short_w he]; exact .mk q, r4.first⟩)
def Fh123_0 := [ag [vs 0, vu 1], ag [vs 2, vu 3], vi 4, U, U, U, U, U, U, U, U, U, U, U, U, U, U, U, U, U, U, U, U, U, U, U, U, U, U, U, U, U, U, U, U, U, U, U]
def Fh123_1 := fs Fh123_0 [(3, ps 0 0), (4, ps 1 0), (6, ps 2 0)]
def Bh123_2 := [bb 101 [vs 0, vu 1], bb 101 [vs 2, vu 3], bb 101 [lz, lu 0]]
def Rh123_3 : Rg := ⟨3, 5, 0, Fh123_0, Bh123_2, [pa 0 0, pa 1 0, pa 2 0], []⟩
def Fh123_4 := fs Fh123_1 [(7, vs 6), (8, vb 7), (11, tu [vs 6, vb 7]), (12, ps 0 0), (13, vs 0), (14, ps 1 0), (15, vs 2), (16, vs 5), (17, vi 4), (18, tu [vs 6, vb 7]), (19, vs 6), (20, vb 7)]
def Rh123_5 : Rg := ⟨12, 5, 3, Fh123_1, Bh123_2, [pv (ps 0 0) 0, pl (vs 0) 0 0 0, pv (ps 1 0) 0, pl (vs 2) 0 1 0, pc (vs 5) 0 141 [vs 0, vs 2] 1, pv (vi 4) 0, pc (tu [vs 6, vb 7]) 1 133 [vs 5, vi 4] 2, pv (tu [vs 6, vb 7]) 2, pv (vs 6) 2, pv (vb 7) 2, pv (vs 6) 2, pv (vb 7) 2], [4, 6]⟩
def Fh123_6 := fs Fh123_4 [(9, vs 11), (10, vb 12), (21, tu [vs 11, vb 12]), (22, ag [vs 0, vu 1]), (23, vs 8), (24, ag [vs 2, vu 3]), (25, vs 9), (26, vs 10), (27, vi 4), (28, tu [vs 11, vb 12]), (29, vs 11), (30, vb 12)]
def Rh123_7 : Rg := ⟨12, 8, 3, Fh123_4, Bh123_2, [pl (ag [vs 0, vu 1]) 0 0 0, pc (vs 8) 0 146 [ag [vs 0, vu 1]] 1, pl (ag [vs 2, vu 3]) 0 1 0, pc (vs 9) 1 146 [ag [vs 2, vu 3]] 1, pc (vs 10) 2 141 [vs 8, vs 9] 1, pv (vi 4) 0, pc (tu [vs 11, vb 12]) 3 133 [vs 10, vi 4] 2, pv (tu [vs 11, vb 12]) 4, pv (vs 11) 4, pv (vb 12) 4, pv (vs 11) 4, pv (vb 12) 4], [1, 3, 4, 6]⟩
def Fh123_8 := fs Fh123_6 [(31, vb 12)]
def Rh123_9 : Rg := ⟨1, 13, 3, Fh123_6, Bh123_2, [pv (vb 12) 0], []⟩
def Fh123_10 := fs Fh123_8 [(9, vs 14), (32, vs 11), (33, vs 13), (34, vs 14)]
def Rh123_11 : Rg := ⟨3, 13, 3, Fh123_8, Bh123_2, [pv (vs 11) 0, pc (vs 13) 0 110 [lu 1] 1, pc (vs 14) 1 103 [vs 11, vs 13] 1], [1, 2]⟩
def Fh123_12 := fs Fh123_10 [(35, vs 6), (36, vs 14), (37, ag [vs 15, vu 16])]
def Rh123_13 : Rg := ⟨3, 15, 3, Fh123_10, Bh123_2, [pv (vs 6) 0, pv (vs 14) 0, pc (ag [vs 15, vu 16]) 0 143 [vs 6, vs 14] 2], [2]⟩
def Bh123_14 := [bb 101 [vs 0, vu 1], bb 101 [vs 2, vu 3], bb 101 [vs 15, vu 16]]
def Fh123_15 := fs Fh123_8 [(35, vs 6), (36, vs 11), (37, ag [vs 13, vu 14])]
def Rh123_16 : Rg := ⟨3, 13, 3, Fh123_8, Bh123_2, [pv (vs 6) 0, pv (vs 11) 0, pc (ag [vs 13, vu 14]) 0 143 [vs 6, vs 11] 2], [2]⟩
def Bh123_17 := [bb 101 [vs 0, vu 1], bb 101 [vs 2, vu 3], bb 101 [vs 13, vu 14]]
theorem mul_f {u v : Value} {f g : Nat × Nat} {q : Nat} {w : World} (h : CF w u f) (h' : CF w v g) (hf : bl f.1 ≤ 536870912) (hg : bl g.1 ≤ 536870912) (he : f.2 < 18446744073709551616) (he' : g.2 < 18446744073709551616) (hq : q ≤ 536870912) (hd : (mulF (2 ^ q) f g).2 < 18446744073709551616) (hT : TB w) :
 Calls Tryz.prog 123 #[u, v, .int .i64 (q : Int)] w fun en w' => ∃ v', en = .returned v' ∧ PF w' w.heap.size v' (mulF (2 ^ q) f g) ∧ BL w w' := by
 obtain ⟨A0, n0, c0, rfl⟩ := h.ex
 obtain ⟨A9, n9, c9, rfl⟩ := h'.ex
 have b1 := bl_mul hf hg
 have b2 : bl (f.1 + f.2) ≤ 536870913 := bl_add hf (Nat.le_trans (bl64 he) (by decide))
 have b3 : bl (g.1 + g.2) ≤ 536870913 := bl_add hg (Nat.le_trans (bl64 he') (by decide))
 have b4 := bl_mul b2 b3
 have b5 := bl_div (d := 2 ^ q) b4
 have b6 : bl (up ((f.1 + f.2) * (g.1 + g.2)) (2 ^ q)) ≤ 1073741827 := Nat.le_trans (bl_le_of (up_le _ _)) (bl_add b5 (by decide))
 refine fn_enter (u := 64) (fn := Tryz.f123) Tryz.func123 rfl Fh123_0 [.slice A0 n0 c0, .int .u64 (f.2 : Int), .slice A9 n9 c9, .int .u64 (g.2 : Int), .int .i64 (q : Int)] (by kernel_rfl) rfl (fun a0 S0 r0 => ?_)
 refine wp_seq (rk Rh123_3 [] Fh123_1 Bh123_2 S0 r0 ?_)
 intro _ _ _ r1 S1
 refine wp_seq (rk Rh123_5 [] Fh123_4 Bh123_2 S1 r1 ?_)
 intro _ _ r2 _
 refine (mul_n (h.below r2.first).n (h'.below r2.first).n (by omega) (by omega)).mono ?_
 rintro _ V1 ⟨v, rfl, h1, k1⟩
 obtain ⟨A1, n1, c1, rfl⟩ := h1.ex
 replace h1 := h1.lower r2.fs
 refine ⟨[.slice A1 n1 c1], rfl, rfl, rfl, k1, ?_⟩
 intro _ _ r3 _
 refine (shr_n _ q rfl (h1.lat (r3.at_ 0 _ rfl)).c (by omega) (by omega) (tb hT r3)).mono ?_
 rintro _ V2 ⟨v, rfl, h2, k2⟩
 obtain ⟨A2, n2, c2, rfl⟩ := h2.ex
 replace h2 := h2.lower r3.fs
 refine ⟨[.slice A2 n2 c2, .bool ((f.1 * g.1) % 2 ^ q != 0)], rfl, rfl, rfl, k2, ?_⟩
 intro _ _ _ r4 S4
 refine wp_seq (rk Rh123_7 [] Fh123_6 Bh123_2 S4 r4 ?_)
 intro _ _ r5 _
 refine (high_f (h.below r5.first) (by omega) he).mono ?_
 rintro _ V3 ⟨v, rfl, h3, k3⟩
 obtain ⟨A3, n3, c3, rfl⟩ := h3.ex
 replace h3 := h3.lower r5.fs
 refine ⟨[.slice A3 n3 c3], rfl, rfl, rfl, k3, ?_⟩
 intro _ _ r6 _
 refine (high_f (h'.below r6.first) (by omega) he').mono ?_
 rintro _ V4 ⟨v, rfl, h4, k4⟩
 obtain ⟨A4, n4, c4, rfl⟩ := h4.ex
 replace h4 := h4.lower r6.fs
 refine ⟨[.slice A4 n4 c4], rfl, rfl, rfl, k4, ?_⟩
 intro _ _ r7 _
 refine (mul_n (h3.lat (r7.at_ 2 _ rfl)).c (h4.lat (r7.at_ 3 _ rfl)).c (by omega) (by omega)).mono ?_
 rintro _ V5 ⟨v, rfl, h5, k5⟩
 obtain ⟨A5, n5, c5, rfl⟩ := h5.ex
 replace h5 := h5.lower r7.fs
 refine ⟨[.slice A5 n5 c5], rfl, rfl, rfl, k5, ?_⟩
 intro _ _ r8 _
 refine (shr_n _ q rfl (h5.lat (r8.at_ 4 _ rfl)).c (by omega) (by omega) (tb hT r8)).mono ?_
 rintro _ V6 ⟨v, rfl, h6, k6⟩
 obtain ⟨A6, n6, c6, rfl⟩ := h6.ex
 replace h6 := h6.lower r8.fs
 refine ⟨[.slice A6 n6 c6, .bool (((f.1 + f.2) * (g.1 + g.2)) % 2 ^ q != 0)], rfl, rfl, rfl, k6, ?_⟩
 intro _ _ _ r9 S9
 refine wp_seq ?_
 refine wp_seq (rk Rh123_9 [] Fh123_8 Bh123_2 S9 r9 ?_)
 intro _ _ _ r10 S10
 refine wp_cond_split (t := (((f.1 + f.2) * (g.1 + g.2)) % 2 ^ q != 0)) (S10.cnd (by kernel_rfl)) (fun q1 => ?_) (fun q1 => ?_)
 · refine rk Rh123_11 [.mv (vs 14)] Fh123_10 Bh123_2 S10 r10 ?_
   intro W11 g11 r11 _
   refine (of_n 1 (by decide) _).mono ?_
   rintro _ V7 ⟨v, rfl, h7, k7⟩
   obtain ⟨A7, n7, c7, rfl⟩ := h7.ex
   replace h7 := h7.lower r11.fs
   refine ⟨[.slice A7 n7 c7], rfl, rfl, rfl, k7, ?_⟩
   intro W12 g12 r12 _
   refine (add_n (h6.lat (r12.at_ 5 _ rfl)).c (h7.lat (r12.at_ 6 _ rfl)).c (by omega) (by decide)).mono ?_
   rintro _ V8 ⟨v, rfl, h8, k8⟩
   obtain ⟨A8, n8, c8, rfl⟩ := h8.ex
   replace h8 := h8.lower r12.fs
   refine ⟨[.slice A8 n8 c8], rfl, rfl, rfl, k8, ?_⟩
   intro _ _ _ r13 S13
   refine wp_seq (rk Rh123_13 [.st 2 0 [vs 15, vu 16]] Fh123_12 Bh123_14 S13 r13 ?_)
   intro _ _ r14 _
   refine (between_f (b := up ((f.1 + f.2) * (g.1 + g.2)) (2 ^ q)) (h2.lat (r14.at_ 1 _ rfl)) (by have z := (h8.lat (r14.at_ 7 _ rfl)).c; rw [mul_up1 q1] at z; exact z) (up_mono (Nat.mul_le_mul (Nat.le_add_right _ _) (Nat.le_add_right _ _))) (by omega) hd).mono ?_
   rintro _ V9 ⟨v, rfl, h9, k9⟩
   obtain ⟨A9, n9, c9, rfl⟩ := h9.ex
   refine ⟨[.slice A9 n9 c9, .int .u64 ((mulF (2 ^ q) f g).2 : Int)], rfl, rfl, rfl, k9, ?_⟩
   intro _ _ _ r15 S15
   exact rt S15 [.agg #[.slice A9 n9 c9, .int .u64 ((mulF (2 ^ q) f g).2 : Int)]] (⟨_, rfl, (h9.lat (r15.at_ 8 _ rfl)), r15.first⟩)
 · refine wp_skip ?_
   refine wp_seq (rk Rh123_16 [.st 2 0 [vs 13, vu 14]] Fh123_15 Bh123_17 S10 r10 ?_)
   intro W11 g11 r11 _
   refine (between_f (b := up ((f.1 + f.2) * (g.1 + g.2)) (2 ^ q)) (h2.lat (r11.at_ 1 _ rfl)) (by have z := (h6.lat (r11.at_ 5 _ rfl)).c; rw [mul_up0 q1] at z; exact z) (up_mono (Nat.mul_le_mul (Nat.le_add_right _ _) (Nat.le_add_right _ _))) (by omega) hd).mono ?_
   rintro _ V10 ⟨v, rfl, h10, k10⟩
   obtain ⟨A10, n10, c10, rfl⟩ := h10.ex
   refine ⟨[.slice A10 n10 c10, .int .u64 ((mulF (2 ^ q) f g).2 : Int)], rfl, rfl, rfl, k10, ?_⟩
   intro _ g12 W12 r12 S12
   exact rt S12 [.agg #[.slice A10 n10 c10, .int .u64 ((mulF (2 ^ q) f g).2 : Int)]] (⟨_, rfl, (h10.lat (r12.at_ 6 _ rfl)), r12.first⟩)
theorem whole_cells {z : Int} (hz : 0 ≤ z) : ∃ k : Nat, cexp z 0 = (k : Int) ∧ cman z * 2 ^ k = z.toNat ∧ k ≤ bl z.toNat := by
 by_cases h0 : z = 0
 · subst h0; exact ⟨0, rfl, by rw [cman_zero]; rfl, Nat.zero_le _⟩
 · obtain ⟨k, h1, h2, h3⟩ := of_form (e := 0) h0
   have h4 : z.natAbs = cman z * 2 ^ k := by
    have := congrArg Int.natAbs h2
    rwa [sgn_abs] at this
   refine ⟨k, by rw [h1]; omega, by rw [← h4]; omega, ?_⟩
   rw [h3, show z.toNat = z.natAbs by omega]
   exact Nat.le_of_lt (tz_lt_bl (by omega))
def Fh144_0 := [dg 0, U, U, U, U, U, U, U]
def Fh144_1 := fs Fh144_0 [(1, ps 0 0), (2, lz)]
def Bh144_2 := [bb 25 (d3 0)]
def Rh144_3 : Rg := ⟨2, 3, 0, Fh144_0, Bh144_2, [pa 0 0, pv (lz) 0], []⟩
def Fh144_4 := fs Fh144_1 [(2, vs 3), (3, ps 0 1), (4, vs 1), (5, ps 0 2), (6, vi 2), (7, vs 3)]
def Rh144_5 : Rg := ⟨6, 3, 1, Fh144_1, Bh144_2, [pv (ps 0 1) 0, pl (vs 1) 0 0 1, pv (ps 0 2) 0, pl (vi 2) 0 0 2, pc (vs 3) 0 131 [vs 1, vi 2] 1, pv (vs 3) 1], [4]⟩
theorem whole_f {v : Value} {b : Nat} {z : Int} {w : World} (h : PDy w b v z 0) (hz : 0 ≤ z) (hb : bl z.toNat ≤ 2147483648) :
 Calls Tryz.prog 144 #[v] w fun en w' => ∃ v', en = .returned v' ∧ PN w' w.heap.size v' z.toNat ∧ BL w w' := by
 obtain ⟨b0, A0, n0, c0, x0, rfl⟩ := h.ex
 obtain ⟨hb0, hx0, p⟩ := h.cells
 obtain ⟨k, hk, hkz, hkb⟩ := whole_cells hz
 rw [← hx0] at hk
 have hcb : bl (cman z) ≤ bl z.toNat := bl_le_of (by rw [← hkz]; exact Nat.le_mul_of_pos_right _ (Nat.two_pow_pos k))
 have hkl : k ≤ bl z.toNat := hkb
 refine fn_enter (u := 64) (fn := Tryz.f144) Tryz.func144 rfl Fh144_0 [.bool b0, .slice A0 n0 c0, .int .i64 x0] (by kernel_rfl) rfl (fun a0 S0 r0 => ?_)
 refine wp_seq (rk Rh144_3 [] Fh144_1 Bh144_2 S0 r0 ?_)
 intro _ _ _ r1 S1
 refine wp_seq (rk Rh144_5 [] Fh144_4 Bh144_2 S1 r1 ?_)
 intro _ _ r2 _
 refine (shl_n _ k hk (p.below r2.first).c (by omega) (by omega)).mono ?_
 rintro _ V1 ⟨v, rfl, h1, k1⟩
 obtain ⟨A1, n1, c1, rfl⟩ := h1.ex
 replace h1 := h1.lower r2.fs
 refine ⟨[.slice A1 n1 c1], rfl, rfl, rfl, k1, ?_⟩
 intro _ _ _ r3 S3
 exact rt S3 [.slice A1 n1 c1] (⟨_, rfl, by have q := (h1.lat (r3.at_ 0 _ rfl)); rw [hkz] at q; exact q, r3.first⟩)
theorem PF.zero (w : World) : PF w 0 (.agg #[.slice none 0 0, .int .u64 0]) (0, 0) := ⟨none, 0, 0, rfl, none, 0, 0, 0, [], rfl, by simp [limbs], Nat.le_refl _, by simp [limbs], Kd.R_nil _ _ _ _ _⟩
theorem PF.len {w : World} {b n c : Nat} {A : Option Addr} {x : Value} {f : Nat × Nat} (h : PF w b (.agg #[.slice A n c, x]) f) : n = (limbs f.1).length := h.n.len
structure Terms (te ev od : Nat → Nat × Nat) (n : Nat) : Prop where
 e0 : ev 0 = (0, 0)
 o0 : od 0 = (0, 0)
 es : ∀ k, ev (k + 1) = if k % 2 = 0 then addF (ev k) (te k) else ev k
 os : ∀ k, od (k + 1) = if k % 2 = 0 then od k else addF (od k) (te k)
 pos : 0 < n
 stop : (te n).1 = 0
 go : ∀ k, 0 < k → k < n → (te k).1 ≠ 0
 n31 : n ≤ 2147483648
 tb : ∀ k, k ≤ n → bl (te k).1 ≤ 2147483648 ∧ (te k).2 ≤ 1000
 eb : ∀ k, k ≤ n → bl (ev k).1 ≤ 2147483648 ∧ (ev k).2 ≤ 1000000000000
 ob : ∀ k, k ≤ n → bl (od k).1 ≤ 2147483648 ∧ (od k).2 ≤ 1000000000000
theorem tmod_even {k : Nat} (h : k % 2 = 0) : (k : Int).tmod 2 = 0 := by rw [Int.tmod_eq_emod_of_nonneg (by omega)]; omega
theorem tmod_odd {k : Nat} (h : k % 2 = 1) : (k : Int).tmod 2 = 1 := by rw [Int.tmod_eq_emod_of_nonneg (by omega)]; omega
theorem go_on {te ev od : Nat → Nat × Nat} {n k m : Nat} (H : Terms te ev od n) (hk : k ≤ n) (hm : m = (limbs (te k).1).length) (h : (if decide (((m : Nat) : Int) > 0) then true else (k : Int) == 0) = true) : k < n := by
 refine Nat.lt_of_le_of_ne hk fun he => ?_
 have h0 : m = 0 := by rw [hm, limbs_zero_len, he, H.stop]
 have := H.pos
 rw [h0] at h
 simp at h
 omega
theorem at_end {te ev od : Nat → Nat × Nat} {n k m : Nat} (H : Terms te ev od n) (hk : k ≤ n) (hm : m = (limbs (te k).1).length) (h : (if decide (((m : Nat) : Int) > 0) then true else (k : Int) == 0) = false) : k = n := by
 refine Classical.byContradiction fun hne => ?_
 have h1 : ¬ 0 < m ∧ k ≠ 0 := by
  by_cases h0 : 0 < m
  · simp [h0] at h
  · simp [h0] at h; exact ⟨h0, by omega⟩
 refine H.go k (by omega) (by omega) ?_
 rw [← limbs_zero_len]; omega
def Fi120_0 (fm : Nat) (cp1 : Value) (cp2 : Value) (cp3 : Value) : List Sy := [ag [vs 0, vu 1], .fn (clF fm) [.lit (cp1), .lit (cp2), .lit (cp3)], U, U, U, U, U, U, U, U, U, U, U, U, U, U, U, U, U, U, U, U, U, U, U, U, U, U, U, U, U, U, U, U, U, U, U, U, U, U, U, U, U, U, U, U, U]
def Fi120_1 (fm : Nat) (cp1 : Value) (cp2 : Value) (cp3 : Value) : List Sy := fs (Fi120_0 fm cp1 cp2 cp3) [(2, ps 0 0), (4, ps 1 0), (5, ps 2 0)]
def Bi120_2 := [bb 101 [vs 0, vu 1], bb 101 [lz, lu 0], bb 101 [lz, lu 0]]
def Ri120_3 (fm : Nat) (cp1 : Value) (cp2 : Value) (cp3 : Value) : Rg := ⟨3, 2, 0, (Fi120_0 fm cp1 cp2 cp3), Bi120_2, [pa 0 0, pa 1 0, pa 2 0], []⟩
def Fi120_4 (fm : Nat) (cp1 : Value) (cp2 : Value) (cp3 : Value) : List Sy := fs (Fi120_1 fm cp1 cp2 cp3) [(6, ps 3 0), (9, ag [lz, lu 0, lz, lu 0])]
def Bi120_5 := [bb 101 [vs 0, vu 1], bb 101 [lz, lu 0], bb 101 [lz, lu 0], bb 126 [lz, lu 0, lz, lu 0]]
def Ri120_6 (fm : Nat) (cp1 : Value) (cp2 : Value) (cp3 : Value) : Rg := ⟨2, 2, 3, (Fi120_1 fm cp1 cp2 cp3), Bi120_5, [pv (ag [lz, lu 0, lz, lu 0]) 0, pa 3 0], []⟩
def Fi120_7 (fm : Nat) (cp1 : Value) (cp2 : Value) (cp3 : Value) : List Sy := fs (Fi120_4 fm cp1 cp2 cp3) [(7, ps 4 0), (10, ag [vs 0, vu 1])]
def Bi120_8 := [bb 101 [vs 0, vu 1], bb 101 [lz, lu 0], bb 101 [lz, lu 0], bb 126 [lz, lu 0, lz, lu 0], bb 101 [lz, lu 0]]
def Ri120_9 (fm : Nat) (cp1 : Value) (cp2 : Value) (cp3 : Value) : Rg := ⟨2, 2, 4, (Fi120_4 fm cp1 cp2 cp3), Bi120_8, [pl (ag [vs 0, vu 1]) 0 0 0, pa 4 0], []⟩
def Bi120_10 := [bb 101 [vs 0, vu 1], bb 101 [lz, lu 0], bb 101 [lz, lu 0], bb 126 [lz, lu 0, lz, lu 0], bb 101 [vs 0, vu 1]]
def Fi120_11 (fm : Nat) (cp1 : Value) (cp2 : Value) (cp3 : Value) : List Sy := fs (Fi120_7 fm cp1 cp2 cp3) [(8, li 0)]
def Ri120_12 (fm : Nat) (cp1 : Value) (cp2 : Value) (cp3 : Value) : Rg := ⟨1, 2, 5, (Fi120_7 fm cp1 cp2 cp3), Bi120_10, [pv (li 0) 0], []⟩
def Li120_13 (jj1 : List Value) (fm : Nat) (cp1 : Value) (cp2 : Value) (cp3 : Value) : List Sy := [ag [vs 0, vu 1], .fn (clF fm) [.lit (cp1), .lit (cp2), .lit (cp3)], ps 0 0, U, ps 1 0, ps 2 0, ps 3 0, ps 4 0, vi 8, ag [lz, lu 0, lz, lu 0], ag [vs 0, vu 1], jw jj1 0, jw jj1 1, jw jj1 2, jw jj1 3, jw jj1 4, jw jj1 5, jw jj1 6, jw jj1 7, jw jj1 8, jw jj1 9, jw jj1 10, jw jj1 11, jw jj1 12, jw jj1 13, jw jj1 14, jw jj1 15, jw jj1 16, jw jj1 17, jw jj1 18, jw jj1 19, jw jj1 20, jw jj1 21, jw jj1 22, jw jj1 23, U, U, U, U, U, U, U, U, U, U, U, U]
def Bi120_14 := [bb 101 [vs 0, vu 1], bb 101 [lz, lu 0], bb 101 [lz, lu 0], bb 126 [vs 2, vu 3, vs 4, vu 5], bb 101 [vs 6, vu 7]]
def Ji120_15 : List Nat := [11, 12, 13, 14, 15, 16, 17, 18, 19, 20, 21, 22, 23, 24, 25, 26, 27, 28, 29, 30, 31, 32, 33, 34]
def Fi120_16 (jj1 : List Value) (fm : Nat) (cp1 : Value) (cp2 : Value) (cp3 : Value) : List Sy := fs (Li120_13 jj1 fm cp1 cp2 cp3) [(11, ps 4 0), (12, vs 6), (13, f1 lnF (vs 6)), (14, bo .gtr (f1 lnF (vs 6)) (li 0)), (15, bo .gtr (f1 lnF (vs 6)) (li 0)), (16, gd false (bo .gtr (f1 lnF (vs 6)) (li 0)) (vi 8)), (17, gd false (bo .gtr (f1 lnF (vs 6)) (li 0)) (bo .eql (vi 8) (li 0))), (18, pk (bo .gtr (f1 lnF (vs 6)) (li 0)) (lb true) (bo .eql (vi 8) (li 0)))]
def Ri120_17 (jj1 : List Value) (fm : Nat) (cp1 : Value) (cp2 : Value) (cp3 : Value) : Rg := ⟨8, 9, 5, (Li120_13 jj1 fm cp1 cp2 cp3), Bi120_14, [pv (ps 4 0) 0, pl (vs 6) 0 4 0, pv (f1 lnF (vs 6)) 0, pv (bo .gtr (f1 lnF (vs 6)) (li 0)) 0, pv (bo .gtr (f1 lnF (vs 6)) (li 0)) 0, ⟨vi 8, 0, [], .val, gd false (bo .gtr (f1 lnF (vs 6)) (li 0)) (vi 8)⟩, ⟨bo .eql (vi 8) (li 0), 0, [], .val, gd false (bo .gtr (f1 lnF (vs 6)) (li 0)) (bo .eql (vi 8) (li 0))⟩, ⟨pk (bo .gtr (f1 lnF (vs 6)) (li 0)) (lb true) (bo .eql (vi 8) (li 0)), 0, [], .pk, pk (bo .gtr (f1 lnF (vs 6)) (li 0)) (lb true) (bo .eql (vi 8) (li 0))⟩], []⟩
def Fi120_18 (jj1 : List Value) (fm : Nat) (cp1 : Value) (cp2 : Value) (cp3 : Value) : List Sy := fs (Fi120_16 jj1 fm cp1 cp2 cp3) [(21, vi 8), (22, li 0), (23, vi 8), (24, li 0), (25, ps 3 0), (26, ag [vs 2, vu 3]), (27, ag [vs 6, vu 7]), (28, ag [vs 9, vu 10]), (29, ps 3 0)]
def Ri120_19 (jj1 : List Value) (fm : Nat) (cp1 : Value) (cp2 : Value) (cp3 : Value) : Rg := ⟨9, 9, 5, (Fi120_16 jj1 fm cp1 cp2 cp3), Bi120_14, [pv (vi 8) 0, ⟨li 0, 0, [], .fx, li 0⟩, pv (vi 8) 0, ⟨li 0, 0, [], .fx, li 0⟩, pv (ps 3 0) 0, pl (ag [vs 2, vu 3]) 0 3 0, pl (ag [vs 6, vu 7]) 0 4 0, pc (ag [vs 9, vu 10]) 0 125 [ag [vs 2, vu 3], ag [vs 6, vu 7]] 2, pv (ps 3 0) 1], [7]⟩
def Bi120_20 := [bb 101 [vs 0, vu 1], bb 101 [lz, lu 0], bb 101 [lz, lu 0], bb 126 [vs 9, vu 10, vs 4, vu 5], bb 101 [vs 6, vu 7]]
def Fi120_21 (jj1 : List Value) (fm : Nat) (cp1 : Value) (cp2 : Value) (cp3 : Value) : List Sy := fs (Fi120_18 jj1 fm cp1 cp2 cp3) [(30, .fn (clF fm) [.lit (cp1), .lit (cp2), .lit (cp3)]), (31, ag [vs 6, vu 7]), (32, vi 8), (33, bo .add (vi 8) (li 1)), (34, ag [vs 11, vu 12])]
def Ri120_22 (jj1 : List Value) (fm : Nat) (cp1 : Value) (cp2 : Value) (cp3 : Value) : Rg := ⟨5, 11, 5, (Fi120_18 jj1 fm cp1 cp2 cp3), Bi120_20, [pv (.fn (clF fm) [.lit (cp1), .lit (cp2), .lit (cp3)]) 0, pl (ag [vs 6, vu 7]) 0 4 0, pv (vi 8) 0, pv (bo .add (vi 8) (li 1)) 0, pc (ag [vs 11, vu 12]) 0 fm [ag [vs 6, vu 7], bo .add (vi 8) (li 1), .lit (cp1), .lit (cp2), .lit (cp3)] 2], [4]⟩
def Bi120_23 := [bb 101 [vs 0, vu 1], bb 101 [lz, lu 0], bb 101 [lz, lu 0], bb 126 [vs 9, vu 10, vs 4, vu 5], bb 101 [vs 11, vu 12]]
def Fi120_24 (jj1 : List Value) (fm : Nat) (cp1 : Value) (cp2 : Value) (cp3 : Value) : List Sy := fs (Fi120_21 jj1 fm cp1 cp2 cp3) [(8, bo .add (vi 8) (li 1)), (19, vi 8), (20, bo .add (vi 8) (li 1))]
def Ri120_25 (jj1 : List Value) (fm : Nat) (cp1 : Value) (cp2 : Value) (cp3 : Value) : Rg := ⟨2, 13, 5, (Fi120_21 jj1 fm cp1 cp2 cp3), Bi120_23, [pv (vi 8) 0, pv (bo .add (vi 8) (li 1)) 0], []⟩
def Fi120_26 (jj1 : List Value) (fm : Nat) (cp1 : Value) (cp2 : Value) (cp3 : Value) : List Sy := fs (Fi120_16 jj1 fm cp1 cp2 cp3) [(35, ps 3 0), (36, ag [vs 2, vu 3]), (37, ps 4 1), (38, vu 7), (39, bo .add (vu 7) (lu 4)), (40, ag [vs 9, vu 10]), (41, ps 3 2), (42, ag [vs 4, vu 5]), (43, ps 4 1), (44, vu 7), (45, bo .add (vu 7) (lu 4)), (46, ag [vs 11, vu 12])]
def Ri120_27 (jj1 : List Value) (fm : Nat) (cp1 : Value) (cp2 : Value) (cp3 : Value) : Rg := ⟨12, 9, 5, (Fi120_16 jj1 fm cp1 cp2 cp3), Bi120_14, [pv (ps 3 0) 0, pl (ag [vs 2, vu 3]) 0 3 0, pv (ps 4 1) 0, pl (vu 7) 0 4 1, pv (bo .add (vu 7) (lu 4)) 0, pc (ag [vs 9, vu 10]) 0 145 [ag [vs 2, vu 3], bo .add (vu 7) (lu 4)] 2, pv (ps 3 2) 0, pl (ag [vs 4, vu 5]) 0 3 2, pv (ps 4 1) 0, pl (vu 7) 0 4 1, pv (bo .add (vu 7) (lu 4)) 0, pc (ag [vs 11, vu 12]) 1 145 [ag [vs 4, vu 5], bo .add (vu 7) (lu 4)] 2], [5, 11]⟩
def Bi120_28 := [bb 101 [vs 0, vu 1], bb 101 [vs 9, vu 10], bb 101 [vs 11, vu 12], bb 126 [vs 2, vu 3, vs 4, vu 5], bb 101 [vs 6, vu 7]]
def Fi120_29 (jj1 : List Value) (fm : Nat) (cp1 : Value) (cp2 : Value) (cp3 : Value) : List Sy := fs (Fi120_16 jj1 fm cp1 cp2 cp3) [(21, vi 8), (22, li 1), (23, vi 8), (24, li 1), (25, ps 3 2), (26, ag [vs 4, vu 5]), (27, ag [vs 6, vu 7]), (28, ag [vs 9, vu 10]), (29, ps 3 2)]
def Ri120_30 (jj1 : List Value) (fm : Nat) (cp1 : Value) (cp2 : Value) (cp3 : Value) : Rg := ⟨9, 9, 5, (Fi120_16 jj1 fm cp1 cp2 cp3), Bi120_14, [pv (vi 8) 0, ⟨li 1, 0, [], .fx, li 1⟩, pv (vi 8) 0, ⟨li 1, 0, [], .fx, li 1⟩, pv (ps 3 2) 0, pl (ag [vs 4, vu 5]) 0 3 2, pl (ag [vs 6, vu 7]) 0 4 0, pc (ag [vs 9, vu 10]) 0 125 [ag [vs 4, vu 5], ag [vs 6, vu 7]] 2, pv (ps 3 2) 1], [7]⟩
def Bi120_31 := [bb 101 [vs 0, vu 1], bb 101 [lz, lu 0], bb 101 [lz, lu 0], bb 126 [vs 2, vu 3, vs 9, vu 10], bb 101 [vs 6, vu 7]]
def Fi120_32 (jj1 : List Value) (fm : Nat) (cp1 : Value) (cp2 : Value) (cp3 : Value) : List Sy := fs (Fi120_29 jj1 fm cp1 cp2 cp3) [(30, .fn (clF fm) [.lit (cp1), .lit (cp2), .lit (cp3)]), (31, ag [vs 6, vu 7]), (32, vi 8), (33, bo .add (vi 8) (li 1)), (34, ag [vs 11, vu 12])]
def Ri120_33 (jj1 : List Value) (fm : Nat) (cp1 : Value) (cp2 : Value) (cp3 : Value) : Rg := ⟨5, 11, 5, (Fi120_29 jj1 fm cp1 cp2 cp3), Bi120_31, [pv (.fn (clF fm) [.lit (cp1), .lit (cp2), .lit (cp3)]) 0, pl (ag [vs 6, vu 7]) 0 4 0, pv (vi 8) 0, pv (bo .add (vi 8) (li 1)) 0, pc (ag [vs 11, vu 12]) 0 fm [ag [vs 6, vu 7], bo .add (vi 8) (li 1), .lit (cp1), .lit (cp2), .lit (cp3)] 2], [4]⟩
def Bi120_34 := [bb 101 [vs 0, vu 1], bb 101 [lz, lu 0], bb 101 [lz, lu 0], bb 126 [vs 2, vu 3, vs 9, vu 10], bb 101 [vs 11, vu 12]]
def Fi120_35 (jj1 : List Value) (fm : Nat) (cp1 : Value) (cp2 : Value) (cp3 : Value) : List Sy := fs (Fi120_32 jj1 fm cp1 cp2 cp3) [(8, bo .add (vi 8) (li 1)), (19, vi 8), (20, bo .add (vi 8) (li 1))]
def Ri120_36 (jj1 : List Value) (fm : Nat) (cp1 : Value) (cp2 : Value) (cp3 : Value) : Rg := ⟨2, 13, 5, (Fi120_32 jj1 fm cp1 cp2 cp3), Bi120_34, [pv (vi 8) 0, pv (bo .add (vi 8) (li 1)) 0], []⟩
theorem sum_f {first cp1 cp2 cp3 : Value} {te ev od : Nat → Nat × Nat} {fm n b : Nat} {w : World} (h : PF w b first (te 0)) (H : Terms te ev od n)
 (hent : Enters Tryz.prog fm) (hn : ∀ (W : World) (u : Value) (k : Nat), k < n → BL w W → PF W 0 u (te k) → Calls Tryz.prog fm #[u, .int .i64 ((k + 1 : Nat) : Int), cp1, cp2, cp3] W fun e W' => ∃ v', e = .returned v' ∧ PF W' W.heap.size v' (te (k + 1)) ∧ BL W W') :
 Calls Tryz.prog 120 #[first, .func (.func fm) #[] #[cp1, cp2, cp3]] w fun en w' => ∃ v1 v2, en = .returned (.tuple #[v1, v2]) ∧ PF w' 0 v1 ((ev n).1, (ev n).2 + ((te n).2 + 4)) ∧ PF w' 0 v2 ((od n).1, (od n).2 + ((te n).2 + 4)) ∧ BL w w' := by
 obtain ⟨A0, n0, c0, rfl⟩ := h.ex
 refine fn_enter (u := 64) (fn := Tryz.f120) Tryz.func120 rfl (Fi120_0 fm cp1 cp2 cp3) [.slice A0 n0 c0, .int .u64 ((te 0).2 : Int)] (by kernel_rfl) rfl (fun a0 S0 r0 => ?_)
 refine wp_seq (rk (Ri120_3 fm cp1 cp2 cp3) [] (Fi120_1 fm cp1 cp2 cp3) Bi120_2 S0 r0 ?_)
 intro a1 _ _ r1 S1
 refine wp_seq (rk (Ri120_6 fm cp1 cp2 cp3) [.st 3 0 [lz, lu 0, lz, lu 0]] (Fi120_4 fm cp1 cp2 cp3) Bi120_5 S1 r1 ?_)
 intro a2 _ _ r2 S2
 refine wp_seq (rk (Ri120_9 fm cp1 cp2 cp3) [.st 4 0 [vs 0, vu 1]] (Fi120_7 fm cp1 cp2 cp3) Bi120_10 S2 r2 ?_)
 intro a3 _ _ r3 S3
 refine wp_seq ?_
 refine wp_seq (rk (Ri120_12 fm cp1 cp2 cp3) [] (Fi120_11 fm cp1 cp2 cp3) Bi120_10 S3 r3 ?_)
 intro _ _ _ r4 S4
 refine wp_block ?_
 refine wp_loop_n (fun nn aa WW => ∃ (jj1 : List Value) (a1 a2 a3 : Option Addr) (m1 d1 m2 d2 m3 d3 k e1 e2 : Nat) (kk : Int) (gg : Nat → Nat), nn = n - k ∧ BL w WW ∧ St w (Li120_13 jj1 fm cp1 cp2 cp3) Bi120_14 [.slice A0 n0 c0, .int .u64 ((te 0).2 : Int), .slice a1 m1 d1, .int .u64 (e1 : Int), .slice a2 m2 d2, .int .u64 (e2 : Int), .slice a3 m3 d3, .int .u64 ((te k).2 : Int), .int .i64 kk] gg aa WW ∧ PF WW 0 (.agg #[.slice a1 m1 d1, .int .u64 ((ev k).2 : Int)]) (ev k) ∧ PF WW 0 (.agg #[.slice a2 m2 d2, .int .u64 ((od k).2 : Int)]) (od k) ∧ PF WW 0 (.agg #[.slice a3 m3 d3, .int .u64 ((te k).2 : Int)]) (te k) ∧ k ≤ n ∧ e1 = (ev k).2 ∧ e2 = (od k).2 ∧ kk = (k : Int)) ⟨jv S4 Ji120_15, none, none, A0, 0, 0, 0, 0, n0, c0, 0, 0, 0, 0, _, rfl, r4.first, St.to S4 [0, 1, 2, 3, 4] (by kernel_rfl) (by kernel_rfl) (by decide) rfl, (by rw [H.e0]; exact .zero _), (by rw [H.o0]; exact .zero _), ((h.below r4.first).lower (Nat.zero_le _)), Nat.zero_le _, (by rw [H.e0]), (by rw [H.o0]), rfl⟩ ?_
 rintro _ a5 W5 ⟨jj1, a1, a2, a3, m1, d1, m2, d2, m3, d3, k, e1, e2, kk, g5, rfl, b5, S5, f1, f2, f3, hk, y1, y2, y3⟩
 have r5 : Reach 64 w [W5] W5 := .of_below b5
 subst y1 y2 y3
 rcases Nat.mod_two_eq_zero_or_one k with he | he
 · have hp : (k : Int).tmod 2 = 0 := tmod_even he
   skip
   refine wp_seq ?_
   refine wp_seq (rk (Ri120_17 jj1 fm cp1 cp2 cp3) [] (Fi120_16 jj1 fm cp1 cp2 cp3) Bi120_14 S5 r5 ?_)
   intro a6 g6 W6 r6 S6
   refine wp_cond_split (t := if decide (((m3 : Nat) : Int) > 0) then true else (k : Int) == 0) (S6.cnd (by kernel_rfl)) (fun q1 => ?_) (fun q1 => ?_)
   · have hlt : k < n := go_on H hk f3.len q1
     have hb1 := H.tb k hk; have hb2 := H.eb k hk; have hb3 := H.ob k hk
     have hw : IntKind.i64.wrap ((k : Int) + 1) = ((k + 1 : Nat) : Int) := by have := H.n31; rw [i64_id (by omega) (by omega)]; rfl
     refine wp_skip ?_
     refine wp_seq ?_
     refine wp_block ?_
     refine wp_seq ?_
     refine region_fl [1, 3] (Ri120_19 jj1 fm cp1 cp2 cp3) [.st 3 0 [vs 9, vu 10]] (Fi120_18 jj1 fm cp1 cp2 cp3) Bi120_20 mx (by kernel_rfl) (entL_ok (by kernel_rfl)) (fun E g => by kernel_rfl) (by kernel_rfl) ⟨fun xs g => Eq.trans (b := some (Next.value (.int .i64 ((k : Int).tmod 2)))) (by kernel_rfl) (by rw [hp]; kernel_rfl), fun xs g => Eq.trans (b := some (Next.value (.int .i64 ((k : Int).tmod 2)))) (by kernel_rfl) (by rw [hp]; kernel_rfl), trivial⟩ S6 (by kernel_rfl) r6 ?_
     intro W7 g7 r7 _
     refine (add_f (f1.lat (r7.at_ 0 _ rfl)).c (f3.lat (r7.at_ 0 _ rfl)).c (by omega) (by omega) (by omega)).mono ?_
     rintro _ V1 ⟨v, rfl, h1, k1⟩
     obtain ⟨A1, n1, c1, rfl⟩ := h1.ex
     replace h1 := h1.lower (Nat.zero_le _)
     refine ⟨[.slice A1 n1 c1, .int .u64 (((addF (ev k) (te k)).2 : Nat) : Int)], rfl, rfl, rfl, k1, ?_⟩
     intro a8 g8 W8 r8 S8
     refine region_ok (Ri120_22 jj1 fm cp1 cp2 cp3) [.st 4 0 [vs 11, vu 12]] (Fi120_21 jj1 fm cp1 cp2 cp3) Bi120_23 mx (by kernel_rfl) (ents_of [fm] (by kernel_rfl) ⟨hent, trivial⟩) (fun E g => by kernel_rfl) (by kernel_rfl) S8 (by kernel_rfl) r8 ?_
     intro W9 g9 r9 _
     show Calls Tryz.prog fm #[.agg #[.slice a3 m3 d3, .int .u64 ((te k).2 : Int)], .int .i64 (IntKind.i64.wrap ((k : Int) + 1)), cp1, cp2, cp3] W9 _
     rw [hw]
     refine (hn _ _ k hlt r9.first (f3.lat (r9.at_ 0 _ rfl))).mono ?_
     rintro _ V2 ⟨v, rfl, h2, k2⟩
     obtain ⟨A2, n2, c2, rfl⟩ := h2.ex
     replace h2 := h2.lower (Nat.zero_le _)
     refine ⟨[.slice A2 n2 c2, .int .u64 (((te (k + 1)).2 : Nat) : Int)], rfl, rfl, rfl, k2, ?_⟩
     intro a10 g10 W10 r10 S10
     refine rk (Ri120_25 jj1 fm cp1 cp2 cp3) [.mv (bo .add (vi 8) (li 1))] (Fi120_24 jj1 fm cp1 cp2 cp3) Bi120_23 S10 r10 ?_
     intro a11 g11 W11 r11 S11
     exact ⟨_, (by omega), ⟨jv S11 Ji120_15, _, _, _, _, _, _, _, _, _, k + 1, _, _, _, _, rfl, r11.first, St.to S11 [0, 1, 2, 3, 4] (by kernel_rfl) (by kernel_rfl) (by decide) rfl, (by have q := (h1.lat (r11.at_ 1 _ rfl)); rw [H.es, if_pos he]; exact q), (by have q := (f2.lat (r11.at_ 0 _ rfl)); rw [H.os, if_pos he]; exact q), (h2.lat (r11.at_ 2 _ rfl)), hlt, (by rw [H.es, if_pos he]), (by rw [H.os, if_pos he]), hw⟩⟩
   · have hkn : k = n := at_end H hk f3.len q1
     subst hkn
     have hb1 := H.tb k hk; have hb2 := H.eb k hk; have hb3 := H.ob k hk
     refine wp_exit (then_exit (then_exit (exit_in ?_)))
     refine wp_seq (rk (Ri120_27 jj1 fm cp1 cp2 cp3) [.st 1 0 [vs 9, vu 10], .st 2 0 [vs 11, vu 12]] (Fi120_26 jj1 fm cp1 cp2 cp3) Bi120_28 S6 r6 ?_)
     intro W7 g7 r7 _
     have hw4 : IntKind.u64.wrap (((te k).2 : Int) + 4) = (((te k).2 + 4 : Nat) : Int) := by rw [u64_id (by omega) (by omega)]; rfl
     show Calls Tryz.prog 145 #[.agg #[.slice a1 m1 d1, .int .u64 ((ev k).2 : Int)], .int .u64 (IntKind.u64.wrap (((te k).2 : Int) + 4))] W7 _
     rw [hw4]
     refine (wider_f (n := (te k).2 + 4) (f1.lat (r7.at_ 0 _ rfl)) (by omega)).mono ?_
     rintro _ V3 ⟨v, rfl, h3, k3⟩
     obtain ⟨A3, n3, c3, rfl⟩ := h3.ex
     replace h3 := h3.lower (Nat.zero_le _)
     refine ⟨[.slice A3 n3 c3, .int .u64 ((((ev k).2 + ((te k).2 + 4)) : Nat) : Int)], rfl, rfl, rfl, k3, ?_⟩
     intro W8 g8 r8 _
     have hw4 : IntKind.u64.wrap (((te k).2 : Int) + 4) = (((te k).2 + 4 : Nat) : Int) := by rw [u64_id (by omega) (by omega)]; rfl
     show Calls Tryz.prog 145 #[.agg #[.slice a2 m2 d2, .int .u64 ((od k).2 : Int)], .int .u64 (IntKind.u64.wrap (((te k).2 : Int) + 4))] W8 _
     rw [hw4]
     refine (wider_f (n := (te k).2 + 4) (f2.lat (r8.at_ 0 _ rfl)) (by omega)).mono ?_
     rintro _ V4 ⟨v, rfl, h4, k4⟩
     obtain ⟨A4, n4, c4, rfl⟩ := h4.ex
     replace h4 := h4.lower (Nat.zero_le _)
     refine ⟨[.slice A4 n4 c4, .int .u64 ((((od k).2 + ((te k).2 + 4)) : Nat) : Int)], rfl, rfl, rfl, k4, ?_⟩
     intro a9 g9 W9 r9 S9
     exact rt S9 [.agg #[.slice A3 n3 c3, .int .u64 ((((ev k).2 + ((te k).2 + 4)) : Nat) : Int)], .agg #[.slice A4 n4 c4, .int .u64 ((((od k).2 + ((te k).2 + 4)) : Nat) : Int)]] (⟨_, _, rfl, (h3.lat (r9.at_ 1 _ rfl)), (h4.lat (r9.at_ 2 _ rfl)), r9.first⟩)
 · have hp : (k : Int).tmod 2 = 1 := tmod_odd he
   skip
   refine wp_seq ?_
   refine wp_seq (rk (Ri120_17 jj1 fm cp1 cp2 cp3) [] (Fi120_16 jj1 fm cp1 cp2 cp3) Bi120_14 S5 r5 ?_)
   intro a6 g6 W6 r6 S6
   refine wp_cond_split (t := if decide (((m3 : Nat) : Int) > 0) then true else (k : Int) == 0) (S6.cnd (by kernel_rfl)) (fun q2 => ?_) (fun q2 => ?_)
   · have hlt : k < n := go_on H hk f3.len q2
     have hb1 := H.tb k hk; have hb2 := H.eb k hk; have hb3 := H.ob k hk
     have hw : IntKind.i64.wrap ((k : Int) + 1) = ((k + 1 : Nat) : Int) := by have := H.n31; rw [i64_id (by omega) (by omega)]; rfl
     refine wp_skip ?_
     refine wp_seq ?_
     refine wp_block ?_
     refine wp_seq ?_
     refine region_fl [1, 3] (Ri120_30 jj1 fm cp1 cp2 cp3) [.st 3 2 [vs 9, vu 10]] (Fi120_29 jj1 fm cp1 cp2 cp3) Bi120_31 mx (by kernel_rfl) (entL_ok (by kernel_rfl)) (fun E g => by kernel_rfl) (by kernel_rfl) ⟨fun xs g => Eq.trans (b := some (Next.value (.int .i64 ((k : Int).tmod 2)))) (by kernel_rfl) (by rw [hp]; kernel_rfl), fun xs g => Eq.trans (b := some (Next.value (.int .i64 ((k : Int).tmod 2)))) (by kernel_rfl) (by rw [hp]; kernel_rfl), trivial⟩ S6 (by kernel_rfl) r6 ?_
     intro W7 g7 r7 _
     refine (add_f (f2.lat (r7.at_ 0 _ rfl)).c (f3.lat (r7.at_ 0 _ rfl)).c (by omega) (by omega) (by omega)).mono ?_
     rintro _ V5 ⟨v, rfl, h5, k5⟩
     obtain ⟨A5, n5, c5, rfl⟩ := h5.ex
     replace h5 := h5.lower (Nat.zero_le _)
     refine ⟨[.slice A5 n5 c5, .int .u64 (((addF (od k) (te k)).2 : Nat) : Int)], rfl, rfl, rfl, k5, ?_⟩
     intro a8 g8 W8 r8 S8
     refine region_ok (Ri120_33 jj1 fm cp1 cp2 cp3) [.st 4 0 [vs 11, vu 12]] (Fi120_32 jj1 fm cp1 cp2 cp3) Bi120_34 mx (by kernel_rfl) (ents_of [fm] (by kernel_rfl) ⟨hent, trivial⟩) (fun E g => by kernel_rfl) (by kernel_rfl) S8 (by kernel_rfl) r8 ?_
     intro W9 g9 r9 _
     show Calls Tryz.prog fm #[.agg #[.slice a3 m3 d3, .int .u64 ((te k).2 : Int)], .int .i64 (IntKind.i64.wrap ((k : Int) + 1)), cp1, cp2, cp3] W9 _
     rw [hw]
     refine (hn _ _ k hlt r9.first (f3.lat (r9.at_ 0 _ rfl))).mono ?_
     rintro _ V6 ⟨v, rfl, h6, k6⟩
     obtain ⟨A6, n6, c6, rfl⟩ := h6.ex
     replace h6 := h6.lower (Nat.zero_le _)
     refine ⟨[.slice A6 n6 c6, .int .u64 (((te (k + 1)).2 : Nat) : Int)], rfl, rfl, rfl, k6, ?_⟩
     intro a10 g10 W10 r10 S10
     refine rk (Ri120_36 jj1 fm cp1 cp2 cp3) [.mv (bo .add (vi 8) (li 1))] (Fi120_35 jj1 fm cp1 cp2 cp3) Bi120_34 S10 r10 ?_
     intro a11 g11 W11 r11 S11
     exact ⟨_, (by omega), ⟨jv S11 Ji120_15, _, _, _, _, _, _, _, _, _, k + 1, _, _, _, _, rfl, r11.first, St.to S11 [0, 1, 2, 3, 4] (by kernel_rfl) (by kernel_rfl) (by decide) rfl, (by have q := (f1.lat (r11.at_ 0 _ rfl)); rw [H.es, if_neg (by omega)]; exact q), (by have q := (h5.lat (r11.at_ 1 _ rfl)); rw [H.os, if_neg (by omega)]; exact q), (h6.lat (r11.at_ 2 _ rfl)), hlt, (by rw [H.es, if_neg (by omega)]), (by rw [H.os, if_neg (by omega)]), hw⟩⟩
   · have hkn : k = n := at_end H hk f3.len q2
     subst hkn
     have hb1 := H.tb k hk; have hb2 := H.eb k hk; have hb3 := H.ob k hk
     refine wp_exit (then_exit (then_exit (exit_in ?_)))
     refine wp_seq (rk (Ri120_27 jj1 fm cp1 cp2 cp3) [.st 1 0 [vs 9, vu 10], .st 2 0 [vs 11, vu 12]] (Fi120_26 jj1 fm cp1 cp2 cp3) Bi120_28 S6 r6 ?_)
     intro W7 g7 r7 _
     have hw4 : IntKind.u64.wrap (((te k).2 : Int) + 4) = (((te k).2 + 4 : Nat) : Int) := by rw [u64_id (by omega) (by omega)]; rfl
     show Calls Tryz.prog 145 #[.agg #[.slice a1 m1 d1, .int .u64 ((ev k).2 : Int)], .int .u64 (IntKind.u64.wrap (((te k).2 : Int) + 4))] W7 _
     rw [hw4]
     refine (wider_f (n := (te k).2 + 4) (f1.lat (r7.at_ 0 _ rfl)) (by omega)).mono ?_
     rintro _ V7 ⟨v, rfl, h7, k7⟩
     obtain ⟨A7, n7, c7, rfl⟩ := h7.ex
     replace h7 := h7.lower (Nat.zero_le _)
     refine ⟨[.slice A7 n7 c7, .int .u64 ((((ev k).2 + ((te k).2 + 4)) : Nat) : Int)], rfl, rfl, rfl, k7, ?_⟩
     intro W8 g8 r8 _
     have hw4 : IntKind.u64.wrap (((te k).2 : Int) + 4) = (((te k).2 + 4 : Nat) : Int) := by rw [u64_id (by omega) (by omega)]; rfl
     show Calls Tryz.prog 145 #[.agg #[.slice a2 m2 d2, .int .u64 ((od k).2 : Int)], .int .u64 (IntKind.u64.wrap (((te k).2 : Int) + 4))] W8 _
     rw [hw4]
     refine (wider_f (n := (te k).2 + 4) (f2.lat (r8.at_ 0 _ rfl)) (by omega)).mono ?_
     rintro _ V8 ⟨v, rfl, h8, k8⟩
     obtain ⟨A8, n8, c8, rfl⟩ := h8.ex
     replace h8 := h8.lower (Nat.zero_le _)
     refine ⟨[.slice A8 n8 c8, .int .u64 ((((od k).2 + ((te k).2 + 4)) : Nat) : Int)], rfl, rfl, rfl, k8, ?_⟩
     intro a9 g9 W9 r9 S9
     exact rt S9 [.agg #[.slice A7 n7 c7, .int .u64 ((((ev k).2 + ((te k).2 + 4)) : Nat) : Int)], .agg #[.slice A8 n8 c8, .int .u64 ((((od k).2 + ((te k).2 + 4)) : Nat) : Int)]] (⟨_, _, rfl, (h7.lat (r9.at_ 1 _ rfl)), (h8.lat (r9.at_ 2 _ rfl)), r9.first⟩)
def Flo (q : Rat) (m : Int) : Prop := (m : Rat) ≤ q ∧ q < (m : Rat) + 1
theorem pow_neg_mul (k : Nat) : (2 : Rat) ^ (-(k : Int)) * ((2 ^ k : Nat) : Rat) = 1 := by
 have h : ((2 ^ k : Nat) : Rat) = (2 : Rat) ^ (k : Int) := by
  rw [← pow_cast]; norm_cast
 rw [h, ← Rat.zpow_add two_ne, Int.add_left_neg, Rat.zpow_zero]
theorem flo_nat {M k : Nat} : ((M / 2 ^ k : Nat) : Rat) ≤ (M : Rat) * (2 : Rat) ^ (-(k : Int)) ∧ (M : Rat) * (2 : Rat) ^ (-(k : Int)) < ((M / 2 ^ k : Nat) : Rat) + 1 ∧ (M % 2 ^ k = 0 → (M : Rat) * (2 : Rat) ^ (-(k : Int)) = ((M / 2 ^ k : Nat) : Rat)) ∧ (M % 2 ^ k ≠ 0 → ((M / 2 ^ k : Nat) : Rat) < (M : Rat) * (2 : Rat) ^ (-(k : Int))) := by
 have hp : (0 : Rat) < ((2 ^ k : Nat) : Rat) := upos (Nat.two_pow_pos k)
 have e : (M : Rat) * (2 : Rat) ^ (-(k : Int)) * ((2 ^ k : Nat) : Rat) = (M : Rat) := by rw [Rat.mul_assoc, pow_neg_mul, Rat.mul_one]
 generalize (M : Rat) * (2 : Rat) ^ (-(k : Int)) = y at *
 have hd := Nat.div_add_mod M (2 ^ k)
 have hm := Nat.mod_lt M (Nat.two_pow_pos k)
 generalize M / 2 ^ k = a at *
 generalize M % 2 ^ k = r at *
 generalize 2 ^ k = P at *
 have hM : (M : Rat) = (P : Rat) * (a : Rat) + (r : Rat) := by rw [← hd, Rat.natCast_add, Rat.natCast_mul]
 have hr : (0 : Rat) ≤ (r : Rat) := Rat.natCast_nonneg
 have hr2 : (r : Rat) < (P : Rat) := Rat.natCast_lt_natCast.2 hm
 refine ⟨?_, ?_, ?_, ?_⟩
 · refine Rat.le_of_mul_le_mul_right ?_ hp
   rw [e, hM]; grind
 · refine Rat.lt_of_mul_lt_mul_right ?_ (Rat.le_of_lt hp)
   rw [e, hM]; grind
 · rintro rfl
   have h1 : (y - (a : Rat)) * (P : Rat) = 0 := by
    rw [show ((0 : Nat) : Rat) = 0 from rfl] at hM
    grind
   rcases Rat.mul_eq_zero.1 h1 with h | h
   · grind
   · rw [h] at hp; exact absurd hp (by grind)
 · intro h0
   have : (0 : Rat) < (r : Rat) := upos (Nat.pos_of_ne_zero h0)
   refine Rat.lt_of_mul_lt_mul_right ?_ (Rat.le_of_lt hp)
   rw [e, hM]; grind
theorem flo_sgn {b c : Bool} {M k : Nat} (hc : c = (M % 2 ^ k != 0)) : Flo (Dv (sgn b M) (-(k : Int))) (sgn b (if (if c then b else false) = true then M / 2 ^ k + 1 else M / 2 ^ k)) := by
 obtain ⟨h1, h2, h3, h4⟩ := flo_nat (M := M) (k := k)
 rw [Dv_sgn]
 cases b
 · rw [show (if c = true then false else false) = false by cases c <;> rfl]
   exact ⟨h1, h2⟩
 · cases hcc : c
   · have : M % 2 ^ k = 0 := by rw [hcc] at hc; simpa using hc.symm
     show ((-((M / 2 ^ k : Nat) : Int) : Int) : Rat) ≤ -_ ∧ -_ < ((-((M / 2 ^ k : Nat) : Int) : Int) : Rat) + 1
     rw [h3 this, Rat.intCast_neg]
     exact ⟨Rat.le_refl, by show -(((M / 2 ^ k : Nat) : Rat)) < -(((M / 2 ^ k : Nat) : Rat)) + 1; grind⟩
   · have : M % 2 ^ k ≠ 0 := by rw [hcc] at hc; simpa using hc.symm
     have h5 := h4 this
     show ((-((M / 2 ^ k + 1 : Nat) : Int) : Int) : Rat) ≤ -_ ∧ -_ < ((-((M / 2 ^ k + 1 : Nat) : Int) : Int) : Rat) + 1
     rw [Rat.intCast_neg, show (((M / 2 ^ k + 1 : Nat) : Int) : Rat) = ((M / 2 ^ k : Nat) : Rat) + 1 from Rat.natCast_add _ _]
     constructor <;> grind
theorem flo_int (m : Int) : Flo (Dv m 0) m := by rw [Dv_unit]; exact ⟨Rat.le_refl, by grind⟩
def Fj142_0 := [dg 0, U, U, U, U, U, U, U, U, U, U, U, U, U, U, U, U, U, U, U, U, U, U, U, U, U, U, U, U, U, U, U]
def Fj142_1 := fs Fj142_0 [(1, ps 0 0), (2, ps 1 0)]
def Bj142_2 := [bb 25 (d3 0), bb 25 o3]
def Rj142_3 : Rg := ⟨2, 3, 0, Fj142_0, Bj142_2, [pa 0 0, pa 1 0], []⟩
def Fj142_4 := fs Fj142_1 [(5, dg 0), (6, dg 3)]
def Rj142_5 : Rg := ⟨2, 3, 2, Fj142_1, Bj142_2, [pl (dg 0) 0 0 0, pc (dg 3) 0 66 [dg 0] 3], [1]⟩
def Bj142_6 := [bb 25 (d3 3), bb 25 o3]
def Fj142_7 := fs Fj142_4 [(7, ps 0 2), (8, vi 5), (9, bo .geq (vi 5) (li 0))]
def Rj142_8 : Rg := ⟨3, 6, 2, Fj142_4, Bj142_6, [pv (ps 0 2) 0, pl (vi 5) 0 0 2, pv (bo .geq (vi 5) (li 0)) 0], []⟩
def Fj142_9 := fs Fj142_7 [(10, dg 3)]
def Rj142_10 : Rg := ⟨1, 6, 2, Fj142_7, Bj142_6, [pl (dg 3) 0 0 0], []⟩
def Bj142_11 := [bb 25 (d3 3), bb 25 (d3 3)]
def Fj142_12 := fs Fj142_7 [(3, vs 6), (4, vb 7), (11, tu [vs 6, vb 7]), (12, ps 0 1), (13, vs 4), (14, ps 0 2), (15, vi 5), (16, f1 ngF (vi 5)), (17, tu [vs 6, vb 7]), (18, vs 6), (19, vb 7)]
def Rj142_13 : Rg := ⟨11, 6, 2, Fj142_7, Bj142_6, [pv (ps 0 1) 0, pl (vs 4) 0 0 1, pv (ps 0 2) 0, pl (vi 5) 0 0 2, pv (f1 ngF (vi 5)) 0, pc (tu [vs 6, vb 7]) 0 133 [vs 4, f1 ngF (vi 5)] 2, pv (tu [vs 6, vb 7]) 1, pv (vs 6) 1, pv (vb 7) 1, pv (vs 6) 1, pv (vb 7) 1], [5]⟩
def Fj142_14 := fs Fj142_12 [(20, vb 7), (21, vb 7), (22, gd true (vb 7) (ps 0 0)), (23, gd true (vb 7) (vb 3)), (24, pk (vb 7) (vb 3) (lb false))]
def Rj142_15 : Rg := ⟨5, 8, 2, Fj142_12, Bj142_6, [pv (vb 7) 0, pv (vb 7) 0, ⟨ps 0 0, 0, [], .val, gd true (vb 7) (ps 0 0)⟩, ⟨vb 3, 0, [], .ld 0 0, gd true (vb 7) (vb 3)⟩, ⟨pk (vb 7) (vb 3) (lb false), 0, [], .pk, pk (vb 7) (vb 3) (lb false)⟩], []⟩
def Fj142_16 := fs Fj142_14 [(3, vs 9), (25, vs 6), (26, vs 8), (27, vs 9)]
def Rj142_17 : Rg := ⟨3, 8, 2, Fj142_14, Bj142_6, [pv (vs 6) 0, pc (vs 8) 0 110 [lu 1] 1, pc (vs 9) 1 103 [vs 6, vs 8] 1], [1, 2]⟩
def Fj142_18 := fs Fj142_16 [(28, ps 0 0), (29, vb 3), (30, vs 9), (31, dg 10)]
def Rj142_19 : Rg := ⟨4, 10, 2, Fj142_16, Bj142_6, [pv (ps 0 0) 0, pl (vb 3) 0 0 0, pv (vs 9) 0, pc (dg 10) 0 102 [vb 3, vs 9, li 0] 3], [3]⟩
def Bj142_20 := [bb 25 (d3 3), bb 25 (d3 10)]
def Fj142_21 := fs Fj142_14 [(28, ps 0 0), (29, vb 3), (30, vs 6), (31, dg 8)]
def Rj142_22 : Rg := ⟨4, 8, 2, Fj142_14, Bj142_6, [pv (ps 0 0) 0, pl (vb 3) 0 0 0, pv (vs 6) 0, pc (dg 8) 0 102 [vb 3, vs 6, li 0] 3], [3]⟩
def Bj142_23 := [bb 25 (d3 3), bb 25 (d3 8)]
theorem floor_q {v : Value} {q : Rat} {N : Nat} {w : World} (h : CQ w v q N) (hN : N ≤ 67108864) (hT : TB w) :
 Calls Tryz.prog 142 #[v] w fun en w' => ∃ v' m, en = .returned v' ∧ PDy w' w.heap.size v' m 0 ∧ Flo q m ∧ BL w w' := by
 obtain ⟨z, e, h, rfl, hB⟩ := h
 obtain ⟨b0, A0, n0, c0, x0, rfl⟩ := h.ex
 have l := bd_len hB; have lo := bd_lo hB; have hi := bd_hi hB
 have hbl : bl (cman z) ≤ N := bl_le_iff.2 (bd_man hB)
 refine fn_enter (u := 64) (fn := Tryz.f142) Tryz.func142 rfl Fj142_0 [.bool b0, .slice A0 n0 c0, .int .i64 x0] (by kernel_rfl) rfl (fun a0 S0 r0 => ?_)
 refine wp_seq (rk Rj142_3 [] Fj142_1 Bj142_2 S0 r0 ?_)
 intro _ _ _ r1 S1
 refine wp_seq (rk Rj142_5 [.st 0 0 (d3 3)] Fj142_4 Bj142_6 S1 r1 ?_)
 intro _ _ r2 _
 refine (pone_dy _ z e _ (h.below r2.first) (by omega) (by omega) (by omega) (tb hT r2)).mono ?_
 rintro _ V1 ⟨v, rfl, h1, k1⟩
 obtain ⟨b1, A1, n1, c1, x1, rfl⟩ := h1.ex
 replace h1 := h1.lower r2.fs
 refine ⟨[.bool b1, .slice A1 n1 c1, .int .i64 x1], rfl, rfl, rfl, k1, ?_⟩
 obtain ⟨hb1, hx1, p1⟩ := h1.cells
 intro _ _ _ r3 S3
 refine wp_seq ?_
 refine wp_seq (rk Rj142_8 [] Fj142_7 Bj142_6 S3 r3 ?_)
 intro _ _ _ r4 S4
 refine wp_cond_split (t := decide (x1 ≥ 0)) (S4.cnd (by kernel_rfl)) (fun q1 => ?_) (fun q1 => ?_)
 · have hx : 0 ≤ x1 := of_decide_eq_true q1
   have hmz : Dv z e = Dv (sgn (cneg z) (cman z) * 2 ^ x1.toNat) 0 := by rw [Dv_shift, Dv_form z e, ← hx1]; congr 1; omega
   refine wp_seq (rk Rj142_10 [.st 1 0 (d3 3)] Fj142_9 Bj142_11 S4 r4 ?_)
   intro _ g5 W5 r5 S5
   exact wp_ret (then_ret (ret_ok S5 [.agg #[.bool b1, .slice A1 n1 c1, .int .i64 x1]] (by kernel_rfl) (⟨_, _, rfl, (h1.lat (r5.at_ 0 _ rfl)).as_ hmz, by rw [hmz]; exact flo_int _, r5.first⟩)))
 · have hx : x1 < 0 := by have := of_decide_eq_false q1; omega
   obtain ⟨k, hk⟩ : ∃ k : Nat, x1 = -(k : Int) := ⟨x1.natAbs, by omega⟩
   have hkN : k ≤ N := by omega
   have hkk : IntKind.i64.wrap (0 - x1) = (k : Int) := by rw [hk, i64_id (by omega) (by omega)]; omega
   have hzk : Dv (sgn b1 (cman z)) (-(k : Int)) = Dv z e := by rw [Dv_form z e, hb1, ← hx1, hk]
   refine wp_skip ?_
   refine wp_seq (rk Rj142_13 [] Fj142_12 Bj142_6 S4 r4 ?_)
   intro W5 g5 r5 _
   show Calls Tryz.prog 133 #[.slice A1 n1 c1, .int .i64 (IntKind.i64.wrap (0 - x1))] W5 _
   refine (shr_n _ k hkk (p1.lat (r5.at_ 0 _ rfl)).c (by omega) (by omega) (tb hT r5)).mono ?_
   rintro _ V2 ⟨v, rfl, h2, k2⟩
   obtain ⟨A2, n2, c2, rfl⟩ := h2.ex
   replace h2 := h2.lower r5.fs
   refine ⟨[.slice A2 n2 c2, .bool (cman z % 2 ^ k != 0)], rfl, rfl, rfl, k2, ?_⟩
   intro _ _ _ r6 S6
   refine wp_seq ?_
   refine wp_seq (rk Rj142_15 [] Fj142_14 Bj142_6 S6 r6 ?_)
   intro _ _ _ r7 S7
   refine wp_cond_split (t := if (cman z % 2 ^ k != 0) then b1 else false) (S7.cnd (by kernel_rfl)) (fun q2 => ?_) (fun q2 => ?_)
   · refine rk Rj142_17 [.mv (vs 9)] Fj142_16 Bj142_6 S7 r7 ?_
     intro W8 g8 r8 _
     refine (of_n 1 (by decide) _).mono ?_
     rintro _ V3 ⟨v, rfl, h3, k3⟩
     obtain ⟨A3, n3, c3, rfl⟩ := h3.ex
     replace h3 := h3.lower r8.fs
     refine ⟨[.slice A3 n3 c3], rfl, rfl, rfl, k3, ?_⟩
     intro W9 g9 r9 _
     refine (add_n (h2.lat (r9.at_ 1 _ rfl)).c (h3.lat (r9.at_ 2 _ rfl)).c (by have := bl_div (d := 2 ^ k) hbl; omega) (by decide)).mono ?_
     rintro _ V4 ⟨v, rfl, h4, k4⟩
     obtain ⟨A4, n4, c4, rfl⟩ := h4.ex
     replace h4 := h4.lower r9.fs
     refine ⟨[.slice A4 n4 c4], rfl, rfl, rfl, k4, ?_⟩
     intro _ _ _ r10 S10
     refine wp_seq (rk Rj142_19 [.st 1 0 (d3 10)] Fj142_18 Bj142_20 S10 r10 ?_)
     intro _ _ r11 _
     refine (form_n _ _ (h4.lat (r11.at_ 3 _ rfl)).c (by have := bl_div (d := 2 ^ k) hbl; have := bl_add (K := 4294967295) (a := cman z / 2 ^ k) (b := 1) (by omega) (by decide); omega) (by decide) (by decide) (tb hT r11)).mono ?_
     rintro _ V5 ⟨v, rfl, h5, k5⟩
     obtain ⟨b5, A5, n5, c5, x5, rfl⟩ := h5.ex
     replace h5 := h5.lower r11.fs
     refine ⟨[.bool b5, .slice A5 n5 c5, .int .i64 x5], rfl, rfl, rfl, k5, ?_⟩
     intro _ _ _ r12 S12
     exact rt S12 [.agg #[.bool b5, .slice A5 n5 c5, .int .i64 x5]] (⟨_, _, rfl, (h5.lat (r12.at_ 4 _ rfl)), by have f := flo_sgn (b := b1) (M := cman z) (k := k) rfl; rw [q2, if_pos rfl, hzk] at f; exact f, r12.first⟩)
   · refine wp_skip ?_
     refine wp_seq (rk Rj142_22 [.st 1 0 (d3 8)] Fj142_21 Bj142_23 S7 r7 ?_)
     intro W8 g8 r8 _
     refine (form_n _ _ (h2.lat (r8.at_ 1 _ rfl)).c (by have := bl_div (d := 2 ^ k) hbl; omega) (by decide) (by decide) (tb hT r8)).mono ?_
     rintro _ V6 ⟨v, rfl, h6, k6⟩
     obtain ⟨b6, A6, n6, c6, x6, rfl⟩ := h6.ex
     replace h6 := h6.lower r8.fs
     refine ⟨[.bool b6, .slice A6 n6 c6, .int .i64 x6], rfl, rfl, rfl, k6, ?_⟩
     intro _ g9 W9 r9 S9
     exact rt S9 [.agg #[.bool b6, .slice A6 n6 c6, .int .i64 x6]] (⟨_, _, rfl, (h6.lat (r9.at_ 2 _ rfl)), by have f := flo_sgn (b := b1) (M := cman z) (k := k) rfl; rw [q2, if_neg (by decide), hzk] at f; exact f, r9.first⟩)
theorem bl_add2 {a b N : Nat} (h : bl a + 1 ≤ N) (h' : bl b + 1 ≤ N) : bl (a + b) ≤ N := by
 have := bl_add (K := N - 1) (a := a) (b := b) (by omega) (by omega); omega
theorem bd_nat {m q N : Nat} (h : bl m ≤ N) (hq : q ≤ N) : Bd N (m : Int) (-(q : Int)) := ⟨by rw [Int.natAbs_natCast]; exact bl_le_iff.1 h, by omega, by omega⟩
def Fj126_0 := [ag [vs 0, vu 1], vi 2, U, U, U, U, U, U, U, U, U, U, U, U, U, U]
def Fj126_1 := fs Fj126_0 [(2, ps 0 0), (4, ps 1 0)]
def Bj126_2 := [bb 101 [vs 0, vu 1], bb 28 o6]
def Rj126_3 : Rg := ⟨2, 3, 0, Fj126_0, Bj126_2, [pa 0 0, pa 1 0], []⟩
def Fj126_4 := fs Fj126_1 [(5, ps 0 0), (6, vs 0), (7, vi 2), (8, f1 ngF (vi 2)), (9, dg 3), (10, ag [vs 0, vu 1]), (11, vs 6), (12, vi 2), (13, f1 ngF (vi 2)), (14, dg 7), (15, ag [vb 3, vs 4, vi 5, vb 7, vs 8, vi 9])]
def Rj126_5 : Rg := ⟨11, 3, 2, Fj126_1, Bj126_2, [pv (ps 0 0) 0, pl (vs 0) 0 0 0, pv (vi 2) 0, pv (f1 ngF (vi 2)) 0, pc (dg 3) 0 102 [lb false, vs 0, f1 ngF (vi 2)] 3, pl (ag [vs 0, vu 1]) 0 0 0, pc (vs 6) 1 146 [ag [vs 0, vu 1]] 1, pv (vi 2) 0, pv (f1 ngF (vi 2)) 0, pc (dg 7) 2 102 [lb false, vs 6, f1 ngF (vi 2)] 3, pv (ag [vb 3, vs 4, vi 5, vb 7, vs 8, vi 9]) 3], [4, 6, 9]⟩
def Bj126_6 := [bb 101 [vs 0, vu 1], bb 28 [vb 3, vs 4, vi 5, vb 7, vs 8, vi 9]]
theorem ival_f {v : Value} {f : Nat × Nat} {q N : Nat} {w : World} (h : CF w v f) (h1 : bl f.1 + 1 ≤ N) (h2 : bl f.2 + 1 ≤ N) (hq : q ≤ N) (hN : N ≤ 67108864) (he : f.2 < 18446744073709551616) (hT : TB w) :
 Calls Tryz.prog 126 #[v, .int .i64 (q : Int)] w fun en w' => ∃ v', en = .returned v' ∧ PI w' w.heap.size v' (Dv (f.1 : Int) (-(q : Int))) (Dv ((f.1 + f.2 : Nat) : Int) (-(q : Int))) N ∧ BL w w' := by
 obtain ⟨A0, n0, c0, rfl⟩ := h.ex
 have hw : IntKind.i64.wrap (0 - (q : Int)) = -(q : Int) := by rw [i64_id (by omega) (by omega)]; omega
 have hs : bl (f.1 + f.2) ≤ N := bl_add2 h1 h2
 refine fn_enter (u := 64) (fn := Tryz.f126) Tryz.func126 rfl Fj126_0 [.slice A0 n0 c0, .int .u64 ((f.2 : Nat) : Int), .int .i64 (q : Int)] (by kernel_rfl) rfl (fun a0 S0 r0 => ?_)
 refine wp_seq (rk Rj126_3 [] Fj126_1 Bj126_2 S0 r0 ?_)
 intro _ _ _ r1 S1
 refine wp_seq (rk Rj126_5 [.st 1 0 [vb 3, vs 4, vi 5, vb 7, vs 8, vi 9]] Fj126_4 Bj126_6 S1 r1 ?_)
 intro W2 _ r2 _
 show Calls Tryz.prog 102 #[.bool false, .slice A0 n0 c0, .int .i64 (IntKind.i64.wrap (0 - (q : Int)))] W2 _
 refine (form_n _ _ (h.below r2.first).n (by omega) (by rw [hw]; omega) (by rw [hw]; omega) (tb hT r2)).mono ?_
 rintro _ V1 ⟨v, rfl, h1, k1⟩
 obtain ⟨b1, A1, n1, c1, x1, rfl⟩ := h1.ex
 replace h1 := h1.lower r2.fs
 refine ⟨[.bool b1, .slice A1 n1 c1, .int .i64 x1], rfl, rfl, rfl, k1, ?_⟩
 intro _ _ r3 _
 refine (high_f (h.below r3.first) (by omega) he).mono ?_
 rintro _ V2 ⟨v, rfl, h2, k2⟩
 obtain ⟨A2, n2, c2, rfl⟩ := h2.ex
 replace h2 := h2.lower r3.fs
 refine ⟨[.slice A2 n2 c2], rfl, rfl, rfl, k2, ?_⟩
 intro W4 _ r4 _
 show Calls Tryz.prog 102 #[.bool false, .slice A2 n2 c2, .int .i64 (IntKind.i64.wrap (0 - (q : Int)))] W4 _
 refine (form_n _ _ (h2.lat (r4.at_ 1 _ rfl)).c (by omega) (by rw [hw]; omega) (by rw [hw]; omega) (tb hT r4)).mono ?_
 rintro _ V3 ⟨v, rfl, h3, k3⟩
 obtain ⟨b3, A3, n3, c3, x3, rfl⟩ := h3.ex
 replace h3 := h3.lower r4.fs
 refine ⟨[.bool b3, .slice A3 n3 c3, .int .i64 x3], rfl, rfl, rfl, k3, ?_⟩
 intro _ _ _ r5 S5
 exact rt S5 [.agg #[.bool b1, .slice A1 n1 c1, .int .i64 x1, .bool b3, .slice A3 n3 c3, .int .i64 x3]] (⟨_, rfl, .mk ⟨f.1, -(q : Int), by have z := (h1.lat (r5.at_ 0 _ rfl)); rw [hw] at z; exact z, rfl, bd_nat (by omega) hq⟩ ⟨_, -(q : Int), by have z := (h3.lat (r5.at_ 2 _ rfl)); rw [hw] at z; exact z, rfl, bd_nat hs hq⟩, r5.first⟩)
theorem int_nonneg {m : Int} (h : (-1 : Rat) < (m : Rat)) : 0 ≤ m := by
 have : (((-1 : Int)) : Rat) < (m : Rat) := h
 have := Rat.intCast_lt_intCast.1 this
 omega
theorem from_pure {x y : Rat} {m1 m2 : Int} (hx : 0 ≤ x) (hxy : x ≤ y) (f1 : Flo x m1) (f2 : Flo (-y) m2) : 0 ≤ m1 ∧ m1 ≤ -m2 ∧ ((-m2 : Int) : Rat) < y + 1 ∧ ((-m2 - m1 : Int) : Rat) < y - x + 2 := by
 have h0 : 0 ≤ m1 := int_nonneg (by have := f1.2; grind)
 refine ⟨h0, ?_, ?_, ?_⟩
 · have h1 := f1.1
   have h2 := f2.1
   have h3 : (m1 : Rat) ≤ ((-m2 : Int) : Rat) := by rw [Rat.intCast_neg]; grind
   exact Rat.intCast_le_intCast.1 h3
 · rw [Rat.intCast_neg]; have := f2.2; grind
 · rw [Rat.intCast_sub, Rat.intCast_neg]; have := f2.2; have := f1.2; grind
theorem bl_rat {m : Int} {y : Rat} {K : Nat} (h0 : 0 ≤ m) (h : (m : Rat) < y + 1) (hy : y ≤ ((2 ^ K : Nat) : Rat)) : bl m.toNat ≤ K + 1 := by
 rw [bl_le_iff]
 have h1 : (m : Rat) < ((2 ^ K + 1 : Nat) : Rat) := by
  rw [Rat.natCast_add]
  rw [show ((1 : Nat) : Rat) = 1 from rfl]
  grind
 have h2 : ((m.toNat : Nat) : Rat) < ((2 ^ K + 1 : Nat) : Rat) := by
  have e : ((m.toNat : Int) : Rat) = (m : Rat) := by rw [Int.toNat_of_nonneg h0]
  have e2 : ((m.toNat : Nat) : Rat) = ((m.toNat : Int) : Rat) := rfl
  rw [e2, e]; exact h1
 have := Rat.natCast_lt_natCast.1 h2
 have : 2 ^ (K + 1) = 2 ^ K + 2 ^ K := by rw [Nat.pow_succ]; omega
 have := Nat.two_pow_pos K
 omega
theorem sub_small {m1 m2 : Int} {d : Rat} (h0 : 0 ≤ m1) (h1 : m1 ≤ m2) (h : ((m2 - m1 : Int) : Rat) < d + 2) (hd : d ≤ 4611686018427387904) : m2.toNat - m1.toNat < 18446744073709551616 := by
 have h2 : ((m2 - m1 : Int) : Rat) < ((4611686018427387906 : Int) : Rat) := by
  rw [show ((4611686018427387906 : Int) : Rat) = 4611686018427387904 + 2 from by decide +kernel]
  grind
 have := Rat.intCast_lt_intCast.1 h2
 omega
theorem toNat_cast {m : Int} (h : 0 ≤ m) : ((m.toNat : Nat) : Int) = m := Int.toNat_of_nonneg h
theorem neg_z {v : Value} {b : Nat} {z : Int} {w : World} (h : PDy w b v z 0) (hz : bl z.natAbs ≤ 4294967296) (hT : TB w) :
 Calls Tryz.prog 106 #[v] w fun en w' => ∃ v', en = .returned v' ∧ PDy w' w.heap.size v' (-z) 0 ∧ BL w w' := by
 have hc : bl (cman z) ≤ 4294967296 := Nat.le_trans (bl_le_of (Nat.div_le_self _ _)) hz
 have hl := len_le (K := 67108864) hc
 have hx : 0 ≤ cexp z 0 ∧ cexp z 0 ≤ 4294967296 := by
  by_cases h0 : z = 0
  · subst h0; rw [cexp_zero]; omega
  · obtain ⟨k, h1, _, h3⟩ := of_form (e := 0) h0
    have := tz_lt_bl (show z.natAbs ≠ 0 by omega)
    omega
 exact pneg_dy v z 0 w h.c (by omega) (by omega) (by omega) hT
def Fk119_0 := [ig 0, vi 6, U, U, U, U, U, U, U, U, U, U, U, U, U, U, U, U, U, U, U, U, U, U]
def Fk119_1 := fs Fk119_0 [(2, ps 0 0), (4, ps 1 0)]
def Bk119_2 := [bb 28 (i6 0), bb 101 [lz, lu 0]]
def Rk119_3 : Rg := ⟨2, 7, 0, Fk119_0, Bk119_2, [pa 0 0, pa 1 0], []⟩
def Fk119_4 := fs Fk119_1 [(5, ps 2 0), (7, ps 0 0), (8, dg 0), (9, vi 6), (10, dg 7), (11, dg 10)]
def Bk119_5 := [bb 28 (i6 0), bb 101 [lz, lu 0], bb 25 o3]
def Rk119_6 : Rg := ⟨6, 7, 2, Fk119_1, Bk119_5, [pv (ps 0 0) 0, pl (dg 0) 0 0 0, pv (vi 6) 0, pc (dg 7) 0 96 [dg 0, vi 6] 3, pc (dg 10) 1 142 [dg 7] 3, pa 2 0], [3, 4]⟩
def Bk119_7 := [bb 28 (i6 0), bb 101 [lz, lu 0], bb 25 (d3 10)]
def Fk119_8 := fs Fk119_4 [(6, ps 3 0), (12, ps 0 3), (13, dg 3), (14, vi 6), (15, dg 13), (16, dg 16), (17, dg 19), (18, dg 22)]
def Bk119_9 := [bb 28 (i6 0), bb 101 [lz, lu 0], bb 25 (d3 10), bb 25 o3]
def Rk119_10 : Rg := ⟨8, 13, 3, Fk119_4, Bk119_9, [pv (ps 0 3) 0, pl (dg 3) 0 0 3, pv (vi 6) 0, pc (dg 13) 0 96 [dg 3, vi 6] 3, pc (dg 16) 1 106 [dg 13] 3, pc (dg 19) 2 142 [dg 16] 3, pc (dg 22) 3 106 [dg 19] 3, pa 3 0], [3, 4, 5, 6]⟩
def Bk119_11 := [bb 28 (i6 0), bb 101 [lz, lu 0], bb 25 (d3 10), bb 25 (d3 22)]
def Fk119_12 := fs Fk119_8 [(19, dg 10), (20, vs 25), (21, dg 22), (22, vs 26), (23, ag [vs 27, vu 28])]
def Rk119_13 : Rg := ⟨5, 25, 4, Fk119_8, Bk119_11, [pl (dg 10) 0 2 0, pc (vs 25) 0 144 [dg 10] 1, pl (dg 22) 0 3 0, pc (vs 26) 1 144 [dg 22] 1, pc (ag [vs 27, vu 28]) 2 143 [vs 25, vs 26] 2], [1, 3, 4]⟩
def Bk119_14 := [bb 28 (i6 0), bb 101 [vs 27, vu 28], bb 25 (d3 10), bb 25 (d3 22)]
theorem from_f {v : Value} {a b : Rat} {N q K : Nat} {w : World} (h : CI w v a b N) (ha : 0 ≤ a) (hab : a ≤ b) (hN : N + q ≤ 67108864) (hK : b * (2 : Rat) ^ (q : Int) ≤ ((2 ^ K : Nat) : Rat)) (hK2 : K + 1 ≤ 2147483648) (hd : b * (2 : Rat) ^ (q : Int) - a * (2 : Rat) ^ (q : Int) ≤ 4611686018427387904) (hT : TB w) :
 Calls Tryz.prog 119 #[v, .int .i64 (q : Int)] w fun en w' => ∃ v' f, en = .returned v' ∧ PF w' w.heap.size v' f ∧ Flo (a * (2 : Rat) ^ (q : Int)) (f.1 : Int) ∧ Flo (-(b * (2 : Rat) ^ (q : Int))) (-((f.1 + f.2 : Nat) : Int)) ∧ BL w w' := by
 obtain ⟨b0, A0, n0, c0, x0, d0, B0, m0, e0, y0, rfl⟩ := h.ex
 have hq0 : (0 : Rat) ≤ (2 : Rat) ^ (q : Int) := Rat.le_of_lt (Dv_pow_pos _)
 have hx := Rat.mul_nonneg ha hq0
 have hxy := Rat.mul_le_mul_of_nonneg_right hab hq0
 refine fn_enter (u := 64) (fn := Tryz.f119) Tryz.func119 rfl Fk119_0 [.bool b0, .slice A0 n0 c0, .int .i64 x0, .bool d0, .slice B0 m0 e0, .int .i64 y0, .int .i64 (q : Int)] (by kernel_rfl) rfl (fun a0 S0 r0 => ?_)
 refine wp_seq (rk Rk119_3 [] Fk119_1 Bk119_2 S0 r0 ?_)
 intro _ _ _ r1 S1
 refine wp_seq (rk Rk119_6 [.st 2 0 (d3 10)] Fk119_4 Bk119_7 S1 r1 ?_)
 intro _ _ r2 _
 refine (shift_q (K := q) (q : Int) (h.below r2.first).lo (by omega) (by omega) (by omega) (tb hT r2)).mono ?_
 rintro _ V1 ⟨v, rfl, h1, k1⟩
 obtain ⟨b1, A1, n1, c1, x1, rfl⟩ := h1.ex
 replace h1 := h1.lower r2.fs
 refine ⟨[.bool b1, .slice A1 n1 c1, .int .i64 x1], rfl, rfl, rfl, k1, ?_⟩
 intro _ _ r3 _
 refine (floor_q (h1.lat (r3.at_ 0 _ rfl)).c hN (tb hT r3)).mono ?_
 rintro _ V2 ⟨v, m2, rfl, h2, f2, k2⟩
 obtain ⟨b2, A2, n2, c2, x2, rfl⟩ := h2.ex
 replace h2 := h2.lower r3.fs
 refine ⟨[.bool b2, .slice A2 n2 c2, .int .i64 x2], rfl, rfl, rfl, k2, ?_⟩
 intro _ _ _ r4 S4
 refine wp_seq (rk Rk119_10 [.st 3 0 (d3 22)] Fk119_8 Bk119_11 S4 r4 ?_)
 intro _ _ r5 _
 refine (shift_q (K := q) (q : Int) (h.below r5.first).hi (by omega) (by omega) (by omega) (tb hT r5)).mono ?_
 rintro _ V3 ⟨v, rfl, h3, k3⟩
 obtain ⟨b3, A3, n3, c3, x3, rfl⟩ := h3.ex
 replace h3 := h3.lower r5.fs
 refine ⟨[.bool b3, .slice A3 n3 c3, .int .i64 x3], rfl, rfl, rfl, k3, ?_⟩
 intro _ _ r6 _
 refine (neg_q (h3.lat (r6.at_ 2 _ rfl)).c hN (tb hT r6)).mono ?_
 rintro _ V4 ⟨v, rfl, h4, k4⟩
 obtain ⟨b4, A4, n4, c4, x4, rfl⟩ := h4.ex
 replace h4 := h4.lower r6.fs
 refine ⟨[.bool b4, .slice A4 n4 c4, .int .i64 x4], rfl, rfl, rfl, k4, ?_⟩
 intro _ _ r7 _
 refine (floor_q (h4.lat (r7.at_ 3 _ rfl)).c hN (tb hT r7)).mono ?_
 rintro _ V5 ⟨v, m5, rfl, h5, f5, k5⟩
 obtain ⟨b5, A5, n5, c5, x5, rfl⟩ := h5.ex
 replace h5 := h5.lower r7.fs
 obtain ⟨h01, h02, h03, h04⟩ := from_pure hx hxy f2 f5
 have hB1 := bl_rat (m := -m5) (by omega) h03 hK
 have hB2 : bl m2.toNat ≤ bl (-m5).toNat := bl_le_of (by omega)
 have hsm := sub_small h01 h02 h04 hd
 refine ⟨[.bool b5, .slice A5 n5 c5, .int .i64 x5], rfl, rfl, rfl, k5, ?_⟩
 intro _ _ r8 _
 refine (neg_z (h5.lat (r8.at_ 4 _ rfl)) (by rw [← Int.natAbs_neg, show (-m5).natAbs = (-m5).toNat by omega]; omega) (tb hT r8)).mono ?_
 rintro _ V6 ⟨v, rfl, h6, k6⟩
 obtain ⟨b6, A6, n6, c6, x6, rfl⟩ := h6.ex
 replace h6 := h6.lower r8.fs
 refine ⟨[.bool b6, .slice A6 n6 c6, .int .i64 x6], rfl, rfl, rfl, k6, ?_⟩
 intro _ _ _ r9 S9
 refine wp_seq (rk Rk119_13 [.st 1 0 [vs 27, vu 28]] Fk119_12 Bk119_14 S9 r9 ?_)
 intro _ _ r10 _
 refine (whole_f (h2.lat (r10.at_ 1 _ rfl)) h01 (by omega)).mono ?_
 rintro _ V7 ⟨v, rfl, h7, k7⟩
 obtain ⟨A7, n7, c7, rfl⟩ := h7.ex
 replace h7 := h7.lower r10.fs
 refine ⟨[.slice A7 n7 c7], rfl, rfl, rfl, k7, ?_⟩
 intro _ _ r11 _
 refine (whole_f (h6.lat (r11.at_ 5 _ rfl)) (by omega) (by omega)).mono ?_
 rintro _ V8 ⟨v, rfl, h8, k8⟩
 obtain ⟨A8, n8, c8, rfl⟩ := h8.ex
 replace h8 := h8.lower r11.fs
 refine ⟨[.slice A8 n8 c8], rfl, rfl, rfl, k8, ?_⟩
 intro _ _ r12 _
 refine (between_f (h7.lat (r12.at_ 6 _ rfl)) (h8.lat (r12.at_ 7 _ rfl)).c (by omega) (by omega) hsm).mono ?_
 rintro _ V9 ⟨v, rfl, h9, k9⟩
 obtain ⟨A9, n9, c9, rfl⟩ := h9.ex
 refine ⟨[.slice A9 n9 c9, .int .u64 ((((-m5).toNat - m2.toNat) : Nat) : Int)], rfl, rfl, rfl, k9, ?_⟩
 intro _ _ _ r13 S13
 exact rt S13 [.agg #[.slice A9 n9 c9, .int .u64 ((((-m5).toNat - m2.toNat) : Nat) : Int)]] (⟨_, _, rfl, (h9.lat (r13.at_ 8 _ rfl)), by rw [toNat_cast h01]; exact f2, by rw [show ((m2.toNat + ((-m5).toNat - m2.toNat) : Nat) : Int) = -m5 by omega, Int.neg_neg]; exact f5, r13.first⟩)
theorem two_w (w : Nat) : (2 : Rat) ^ (w : Int) = ((2 ^ w : Nat) : Rat) := by rw [← pow_cast]; norm_cast
theorem fi_of_flo {a : Rat} {w : Nat} {f : Nat × Nat} (h1 : Flo (a * (2 : Rat) ^ (w : Int)) (f.1 : Int)) (h2 : Flo (-(a * (2 : Rat) ^ (w : Int))) (-((f.1 + f.2 : Nat) : Int))) : Fi (2 ^ w) f a ∧ f.2 ≤ 1 := by
 rw [two_w] at h1 h2
 unfold Fi
 generalize a * ((2 ^ w : Nat) : Rat) = y at *
 have e1 : (((f.1 : Nat) : Int) : Rat) = (f.1 : Rat) := rfl
 have e2 : ((-((f.1 + f.2 : Nat) : Int) : Int) : Rat) = -((f.1 : Rat) + (f.2 : Rat)) := by
  rw [Rat.intCast_neg]
  show -((f.1 + f.2 : Nat) : Rat) = _
  rw [Rat.natCast_add]
 unfold Flo at h1 h2
 rw [e1] at h1
 rw [e2] at h2
 have q1 := h1.1; have q2 := h1.2; have q3 := h2.1; have q4 := h2.2
 refine ⟨⟨q1, by grind⟩, ?_⟩
 have : (f.2 : Rat) < ((2 : Nat) : Rat) := by
  rw [show ((2 : Nat) : Rat) = 2 from rfl]; grind
 have := Rat.natCast_lt_natCast.1 this
 omega
theorem fi_256 {a : Rat} {w : Nat} {f : Nat × Nat} (h : Fi (2 ^ w) f a) (ha : 256 * a ≤ 1) : 256 * f.1 ≤ 2 ^ w := by
 have h1 := h.1
 have hu : (0 : Rat) ≤ ((2 ^ w : Nat) : Rat) := Rat.natCast_nonneg
 have h2 : ((256 * f.1 : Nat) : Rat) ≤ ((2 ^ w : Nat) : Rat) := by
  rw [Rat.natCast_mul, show ((256 : Nat) : Rat) = 256 from rfl]
  have := Rat.mul_le_mul_of_nonneg_right ha hu
  rw [Rat.one_mul] at this
  grind
 exact Rat.natCast_le_natCast.1 h2
theorem te_end {w : Nat} {x : Nat × Nat} (hw : 8 ≤ w) (m : Nat) (hx : 256 * x.1 ≤ 2 ^ w) (hx2 : x.2 ≤ 1) : ∃ n, 0 < n ∧ 8 * n ≤ w + 8 ∧ (teF (2 ^ w) x m n).1 = 0 ∧ ∀ k, 0 < k → k < n → (teF (2 ^ w) x m k).1 ≠ 0 := by
 have key : ∀ n, (∃ k, 0 < k ∧ k ≤ n ∧ (teF (2 ^ w) x m k).1 = 0) → ∃ n', 0 < n' ∧ n' ≤ n ∧ (teF (2 ^ w) x m n').1 = 0 ∧ ∀ k, 0 < k → k < n' → (teF (2 ^ w) x m k).1 ≠ 0 := by
  intro n
  induction n with
  | zero => rintro ⟨k, h1, h2, _⟩; omega
  | succ n ih =>
    intro h
    by_cases h' : ∃ k, 0 < k ∧ k ≤ n ∧ (teF (2 ^ w) x m k).1 = 0
    · obtain ⟨n', h1, h2, h3⟩ := ih h'
      exact ⟨n', h1, by omega, h3⟩
    · obtain ⟨k, h1, h2, h3⟩ := h
      have : k = n + 1 := by
       refine Classical.byContradiction fun hne => h' ⟨k, h1, by omega, h3⟩
      subst this
      exact ⟨n + 1, by omega, by omega, h3, fun j j1 j2 j3 => h' ⟨j, j1, by omega, j3⟩⟩
 have h0 : (teF (2 ^ w) x m (w / 8 + 1)).1 = 0 := by
  refine Classical.byContradiction fun hne => ?_
  have := te_count hw m hx hx2 hne
  omega
 obtain ⟨n, h1, h2, h3, h4⟩ := key (w / 8 + 1) ⟨_, by omega, Nat.le_refl _, h0⟩
 exact ⟨n, h1, by omega, h3, h4⟩
theorem pow256 {w : Nat} (hw : 8 ≤ w) : 256 ≤ 2 ^ w := Nat.le_trans (by decide : 256 ≤ 2 ^ 8) (Nat.pow_le_pow_right (by decide) hw)
theorem ev_le (u : Nat) (x : Nat × Nat) (m k : Nat) : (evF u x m k).1 ≤ (seF u x m k).1 ∧ (evF u x m k).2 ≤ (seF u x m k).2 ∧ (odF u x m k).1 ≤ (seF u x m k).1 ∧ (odF u x m k).2 ≤ (seF u x m k).2 := by
 have := ev_od u x m k
 rw [← this]
 unfold addF
 exact ⟨Nat.le_add_right _ _, Nat.le_add_right _ _, Nat.le_add_left _ _, Nat.le_add_left _ _⟩
theorem bl_2u {a w : Nat} (h : a ≤ 2 * 2 ^ w) : bl a ≤ w + 2 := by
 rw [bl_le_iff]
 have : 2 ^ (w + 2) = 4 * 2 ^ w := by rw [Nat.pow_add]; omega
 have := Nat.two_pow_pos w
 omega
theorem terms_of {w m n : Nat} {x : Nat × Nat} (hw : 8 ≤ w) (hw2 : w ≤ 1048576) (hx : 256 * x.1 ≤ 2 ^ w) (hx2 : x.2 ≤ 1) (h1 : 0 < n) (h2 : 8 * n ≤ w + 8) (h3 : (teF (2 ^ w) x m n).1 = 0) (h4 : ∀ k, 0 < k → k < n → (teF (2 ^ w) x m k).1 ≠ 0) :
 Terms (teF (2 ^ w) x m) (evF (2 ^ w) x m) (odF (2 ^ w) x m) n := by
 have hu := pow256 hw
 have ts := te_small hu m hx hx2
 have sb : ∀ k, k ≤ n → (seF (2 ^ w) x m k).1 ≤ 2 * 2 ^ w ∧ (seF (2 ^ w) x m k).2 ≤ 6 * n := by
  intro k hk
  have q1 := se_top hu m hx hx2 k
  have q2 := se_err hu m hx hx2 k
  exact ⟨by omega, Nat.le_trans q2 (Nat.mul_le_mul_left _ hk)⟩
 refine ⟨rfl, rfl, fun k => rfl, fun k => rfl, h1, h3, h4, by omega, ?_, ?_, ?_⟩
 · intro k _
   have := ts k
   exact ⟨by have := bl_2u (w := w) (a := (teF (2 ^ w) x m k).1) (by omega); omega, by omega⟩
 · intro k hk
   have := sb k hk; have := ev_le (2 ^ w) x m k
   exact ⟨by have := bl_2u (w := w) (a := (evF (2 ^ w) x m k).1) (by omega); omega, by omega⟩
 · intro k hk
   have := sb k hk; have := ev_le (2 ^ w) x m k
   exact ⟨by have := bl_2u (w := w) (a := (odF (2 ^ w) x m k).1) (by omega); omega, by omega⟩
theorem mul_err {w m k : Nat} {x : Nat × Nat} (hw : 8 ≤ w) (hx : 256 * x.1 ≤ 2 ^ w) (hx2 : x.2 ≤ 1) : (mulF (2 ^ w) (teF (2 ^ w) x m k) x).2 ≤ 100 := by
 have ts := te_small (pow256 hw) m hx hx2 k
 generalize teF (2 ^ w) x m k = t at *
 have hU := Nat.two_pow_pos w
 have h1 : up ((t.1 + t.2) * (x.1 + x.2)) (2 ^ w) ≤ t.1 * x.1 / 2 ^ w + 100 := by
  refine Nat.le_trans (up_le _ _) ?_
  have h2 : (t.1 + t.2) * (x.1 + x.2) ≤ t.1 * x.1 + 99 * 2 ^ w := by
   have e : (t.1 + t.2) * (x.1 + x.2) = t.1 * x.1 + t.1 * x.2 + t.2 * (x.1 + x.2) := by
    rw [Nat.add_mul, Nat.mul_add]
   have a1 : t.1 * x.2 ≤ 2 ^ w := Nat.le_trans (Nat.mul_le_mul_left _ hx2) (by omega)
   have a2 : t.2 * (x.1 + x.2) ≤ 6 * (2 ^ w + 2 ^ w) := Nat.mul_le_mul (by omega) (by omega)
   omega
  have h3 : (t.1 + t.2) * (x.1 + x.2) / 2 ^ w ≤ (t.1 * x.1 + 99 * 2 ^ w) / 2 ^ w := Nat.div_le_div_right h2
  rw [Nat.add_mul_div_right _ _ hU] at h3
  omega
 show up _ _ - _ ≤ 100
 omega
theorem small_encl {w m n : Nat} {x : Nat × Nat} {a : Rat} {err : Nat} (hw : 8 ≤ w) (hf : Fi (2 ^ w) x a) (h0 : 0 ≤ a) (ha : 256 * a ≤ 1) (hx2 : x.2 ≤ 1) (h1 : 0 < n) (h3 : (teF (2 ^ w) x m n).1 = 0) (he : err = (seF (2 ^ w) x m n).2 + 2 * ((teF (2 ^ w) x m n).2 + 4)) :
 In (Dv (((seF (2 ^ w) x m n).1 : Nat) : Int) (-(w : Int))) (Dv (((seF (2 ^ w) x m n).1 + err : Nat) : Int) (-(w : Int))) (sm m a) ∧ 2 ^ w ≤ (seF (2 ^ w) x m n).1 ∧ (seF (2 ^ w) x m n).1 ≤ 2 * 2 ^ w ∧ err ≤ 6 * n + 20 := by
 have hu := pow256 hw
 have hx := fi_256 hf ha
 have ts := te_small hu m hx hx2 n
 refine ⟨?_, se_first h1, ?_, ?_⟩
 · rw [Dv_down, Dv_down]
   exact se_encl hu hf h0 (by grind) h3 (by omega)
 · have := se_top hu m hx hx2 n; omega
 · have := se_err hu m hx hx2 n; omega
theorem blk_lt {w : World} {g : Nat} {o : Obj} (h : w.heap[g]? = some o) : g < w.heap.size := (Array.getElem?_eq_some_iff.1 h).1
theorem step_w {k m : Nat} (hk : k ≤ 2147483648) (hm : m ≤ 2147483648) : IntKind.u64.wrap (IntKind.i64.wrap (((k + 1 : Nat) : Int) + (m : Int))) = ((k + m + 1 : Nat) : Int) := by
 rw [i64_id (by omega) (by omega), u64_id (by omega) (by omega)]; omega
def Fl122_0 := [ag [vs 0, vu 1], vi 2, ps 0 0, ps 1 0, ps 2 0, U, U, U, U, U, U, U, U, U, U, U, U]
def Fl122_1 := fs Fl122_0 [(5, ps 3 0), (7, ps 4 0)]
def Bl122_2 := [rb 101 [vs 3, vu 4], rb 3 [vi 5], rb 3 [vi 6], bb 101 [vs 0, vu 1], bb 101 [lz, lu 0]]
def Rl122_3 : Rg := ⟨2, 7, 3, Fl122_0, Bl122_2, [pa 3 0, pa 4 0], []⟩
def Fl122_4 := fs Fl122_1 [(8, ag [vs 0, vu 1]), (9, ag [vs 3, vu 4]), (10, vi 5), (11, ag [vs 7, vu 8]), (12, vi 2), (13, vi 6), (14, bo .add (vi 2) (vi 6)), (15, f1 (cvF .u64) (bo .add (vi 2) (vi 6))), (16, ag [vs 9, vu 10])]
def Rl122_5 : Rg := ⟨9, 7, 5, Fl122_1, Bl122_2, [pl (ag [vs 0, vu 1]) 0 3 0, pl (ag [vs 3, vu 4]) 0 0 0, pl (vi 5) 0 1 0, pc (ag [vs 7, vu 8]) 0 123 [ag [vs 0, vu 1], ag [vs 3, vu 4], vi 5] 2, pv (vi 2) 0, pl (vi 6) 0 2 0, pv (bo .add (vi 2) (vi 6)) 0, pv (f1 (cvF .u64) (bo .add (vi 2) (vi 6))) 0, pc (ag [vs 9, vu 10]) 1 124 [ag [vs 7, vu 8], f1 (cvF .u64) (bo .add (vi 2) (vi 6))] 2], [3, 8]⟩
def Bl122_6 := [rb 101 [vs 3, vu 4], rb 3 [vi 5], rb 3 [vi 6], bb 101 [vs 0, vu 1], bb 101 [vs 9, vu 10]]
theorem step_f {w W : World} {u : Value} {t x : Nat × Nat} {q m k ga gb gc : Nat} {Ax : Option Addr} {nx cx : Nat} (hb : BL w W) (b0 : w.heap[ga]? = some (.cells #[.slice Ax nx cx, .int .u64 ((x.2 : Nat) : Int)] 101 (0, 0))) (b1 : w.heap[gb]? = some (.cells #[.int .i64 (q : Int)] 3 (0, 0))) (b2 : w.heap[gc]? = some (.cells #[.int .i64 (m : Int)] 3 (0, 0)))
 (h : CF W u t) (hx : CF W (.agg #[.slice Ax nx cx, .int .u64 ((x.2 : Nat) : Int)]) x) (ht : bl t.1 ≤ 536870912) (hxb : bl x.1 ≤ 536870912) (ht2 : t.2 ≤ 1000) (hx2 : x.2 ≤ 1000) (hq : q ≤ 536870912) (hk : k ≤ 2147483648) (hm : m ≤ 2147483648) (hme : (mulF (2 ^ q) t x).2 ≤ 1000) (hmb : bl (mulF (2 ^ q) t x).1 ≤ 2147483648) (hT : TB W) :
 Calls Tryz.prog 122 #[u, .int .i64 ((k + 1 : Nat) : Int), .pointer (some ⟨ga, 0, none⟩), .pointer (some ⟨gb, 0, none⟩), .pointer (some ⟨gc, 0, none⟩)] W fun e W' => ∃ v', e = .returned v' ∧ PF W' W.heap.size v' (shortF (mulF (2 ^ q) t x) (k + 1 + m)) ∧ BL W W' := by
 obtain ⟨A0, n0, c0, rfl⟩ := h.ex
 have e0 := (hb.block _ (blk_lt b0)).trans b0
 have e1 := (hb.block _ (blk_lt b1)).trans b1
 have e2 := (hb.block _ (blk_lt b2)).trans b2
 refine fn_enter2 (u := 64) (fn := Tryz.f122) Tryz.func122 rfl Fl122_0 [rb 101 [vs 3, vu 4], rb 3 [vi 5], rb 3 [vi 6]] [.slice A0 n0 c0, .int .u64 ((t.2 : Nat) : Int), .int .i64 ((k + 1 : Nat) : Int), .slice Ax nx cx, .int .u64 ((x.2 : Nat) : Int), .int .i64 (q : Int), .int .i64 (m : Int)] (fun b => match b with | 0 => ga | 1 => gb | _ => gc) (by kernel_rfl) rfl rfl (by
  intro b x hx
  match b, hx with
  | 0, hx => injection hx with hx; subst hx; exact e0
  | 1, hx => injection hx with hx; subst hx; exact e1
  | 2, hx => injection hx with hx; subst hx; exact e2
  | b + 3, hx => simp at hx) (fun a0 S0 r0 => ?_)
 refine wp_seq (rk Rl122_3 [] Fl122_1 Bl122_2 S0 r0 ?_)
 intro _ _ _ r1 S1
 refine wp_seq (rk Rl122_5 [.st 4 0 [vs 9, vu 10]] Fl122_4 Bl122_6 S1 r1 ?_)
 intro _ _ r2 _
 refine (mul_f (h.below r2.first) (hx.below r2.first) ht hxb (by omega) (by omega) hq (by omega) (tb hT r2)).mono ?_
 rintro _ V1 ⟨v, rfl, h1, k1⟩
 obtain ⟨A1, n1, c1, rfl⟩ := h1.ex
 replace h1 := h1.lower r2.fs
 refine ⟨[.slice A1 n1 c1, .int .u64 (((mulF (2 ^ q) t x).2 : Nat) : Int)], rfl, rfl, rfl, k1, ?_⟩
 intro W3 _ r3 _
 show Calls Tryz.prog 124 #[.agg #[.slice A1 n1 c1, .int .u64 (((mulF (2 ^ q) t x).2 : Nat) : Int)], .int .u64 (IntKind.u64.wrap (IntKind.i64.wrap (((k + 1 : Nat) : Int) + (m : Int))))] W3 _
 rw [step_w hk hm]
 refine (short_f (d := k + m) (h1.lat (r3.at_ 0 _ rfl)).c hmb (by omega) (by omega)).mono ?_
 rintro _ V2 ⟨v, rfl, h2, k2⟩
 obtain ⟨A2, n2, c2, rfl⟩ := h2.ex
 replace h2 := h2.lower r3.fs
 refine ⟨[.slice A2 n2 c2, .int .u64 (((shortF (mulF (2 ^ q) t x) (k + m + 1)).2 : Nat) : Int)], rfl, rfl, rfl, k2, ?_⟩
 intro _ _ _ r4 S4
 exact rt S4 [.agg #[.slice A2 n2 c2, .int .u64 (((shortF (mulF (2 ^ q) t x) (k + m + 1)).2 : Nat) : Int)]] (⟨_, rfl, by rw [show k + 1 + m = k + m + 1 by omega]; exact (h2.lat (r4.at_ 1 _ rfl)), r4.first⟩)
theorem from_top {a : Rat} (h : 256 * a ≤ 1) (q : Nat) : a * (2 : Rat) ^ (q : Int) ≤ ((2 ^ (q + 1) : Nat) : Rat) := by
 rw [two_w]
 have h1 : a ≤ 2 := by grind
 have h2 := Rat.mul_le_mul_of_nonneg_right h1 (show (0 : Rat) ≤ ((2 ^ q : Nat) : Rat) from Rat.natCast_nonneg)
 rw [Nat.pow_succ, Rat.natCast_mul, show ((2 : Nat) : Rat) = 2 from rfl]
 grind
theorem te_bl {w : Nat} {x : Nat × Nat} (hw : 8 ≤ w) (hx : 256 * x.1 ≤ 2 ^ w) (hx2 : x.2 ≤ 1) (m k : Nat) : bl (teF (2 ^ w) x m k).1 ≤ w + 2 := by
 have := te_small (pow256 hw) m hx hx2 k
 exact bl_2u (by omega)
theorem mul_bl {w : Nat} {x : Nat × Nat} (hw : 8 ≤ w) (hx : 256 * x.1 ≤ 2 ^ w) (hx2 : x.2 ≤ 1) (m k : Nat) : bl (mulF (2 ^ w) (teF (2 ^ w) x m k) x).1 ≤ 2 * w + 4 := by
 have h1 := te_bl hw hx hx2 m k
 have h2 : bl x.1 ≤ w + 2 := bl_2u (by omega)
 show bl (_ * _ / _) ≤ _
 have := bl_div (d := 2 ^ w) (bl_mul h1 h2)
 omega
theorem sum_fin {w m n err : Nat} {x : Nat × Nat} (herr : err = (seF (2 ^ w) x m n).2 + 2 * ((teF (2 ^ w) x m n).2 + 4)) : addF ((evF (2 ^ w) x m n).1, (evF (2 ^ w) x m n).2 + ((teF (2 ^ w) x m n).2 + 4)) ((odF (2 ^ w) x m n).1, (odF (2 ^ w) x m n).2 + ((teF (2 ^ w) x m n).2 + 4)) = ((seF (2 ^ w) x m n).1, err) := by
 have := ev_od (2 ^ w) x m n
 rw [herr, ← this]
 unfold addF
 simp only [Prod.mk.injEq, true_and]
 omega
structure Sml (m w : Nat) (a lo hi : Rat) : Prop where
 encl : In lo hi (sm m a)
 one : 1 ≤ lo
 two : lo ≤ 2
 le : lo ≤ hi
 nar : hi - lo ≤ ep (w - 14)
theorem sml_fin {w m n err S : Nat} {a : Rat} (hw : 64 ≤ w) (hw2 : w ≤ 40000) (hn : 8 * n ≤ w + 8) (h : In (Dv ((S : Nat) : Int) (-(w : Int))) (Dv ((S + err : Nat) : Int) (-(w : Int))) (sm m a) ∧ 2 ^ w ≤ S ∧ S ≤ 2 * 2 ^ w ∧ err ≤ 6 * n + 20) : Sml m w a (Dv ((S : Nat) : Int) (-(w : Int))) (Dv ((S + err : Nat) : Int) (-(w : Int))) := by
 obtain ⟨h1, h2, h3, h4⟩ := h
 have hu : (0 : Rat) < ((2 ^ w : Nat) : Rat) := upos (Nat.two_pow_pos w)
 have hi : (0 : Rat) < (((2 ^ w : Nat) : Rat))⁻¹ := Rat.inv_pos.2 hu
 have hc : ((2 ^ w : Nat) : Rat) * (((2 ^ w : Nat) : Rat))⁻¹ = 1 := Rat.mul_inv_cancel _ (by grind)
 have q2 := Rat.mul_le_mul_of_nonneg_right (Rat.natCast_le_natCast.2 h2) (Rat.le_of_lt hi)
 have q3 := Rat.mul_le_mul_of_nonneg_right (Rat.natCast_le_natCast.2 h3) (Rat.le_of_lt hi)
 rw [Rat.natCast_mul, show ((2 : Nat) : Rat) = 2 from rfl] at q3
 have he : err ≤ 2 ^ 15 := by omega
 have q4 := Rat.mul_le_mul_of_nonneg_right (Rat.natCast_le_natCast.2 he) (Rat.le_of_lt hi)
 have hep : ((2 ^ 15 : Nat) : Rat) * (((2 ^ w : Nat) : Rat))⁻¹ = ep (w - 14) := by
  have := ep_add (w - 14) 14
  rw [show w - 14 + 14 = w by omega] at this
  rw [← this]
  unfold ep
  rw [show (2 ^ 15 : Nat) = 2 ^ 14 * 2 from rfl, Rat.natCast_mul, show ((2 : Nat) : Rat) = 2 from rfl]
  grind
 rw [Dv_down, Dv_down] at h1 ⊢
 rw [Rat.natCast_add] at h1 ⊢
 have e0 : (0 : Rat) ≤ (err : Rat) := Rat.natCast_nonneg
 have e1 := Rat.mul_nonneg e0 (Rat.le_of_lt hi)
 refine ⟨h1, ?_, ?_, ?_, ?_⟩
 · rw [← hc]; exact q2
 · grind
 · grind
 · rw [← hep]; grind
def Fl84_0 := [dg 0, vi 3, vi 4, U, U, U, U, U, U, U, U, U, U, U, U, U, U, U, U, U, U, U, U, U, U, U]
def Fl84_1 := fs Fl84_0 [(3, ps 0 0), (4, ps 1 0), (5, ps 2 0), (6, ps 3 0)]
def Bl84_2 := [bb 25 (d3 0), bb 3 [vi 3], bb 3 [vi 4], bb 28 o6]
def Rl84_3 : Rg := ⟨4, 5, 0, Fl84_0, Bl84_2, [pa 0 0, pa 1 0, pa 2 0, pa 3 0], []⟩
def Fl84_4 := fs Fl84_1 [(7, ps 4 0), (10, dg 0), (11, ig 5), (12, vi 3), (13, ag [vs 11, vu 12])]
def Bl84_5 := [bb 25 (d3 0), bb 3 [vi 3], bb 3 [vi 4], bb 28 o6, bb 101 [lz, lu 0]]
def Rl84_6 : Rg := ⟨5, 5, 4, Fl84_1, Bl84_5, [pl (dg 0) 0 0 0, pc (ig 5) 0 83 [dg 0] 6, pl (vi 3) 0 1 0, pc (ag [vs 11, vu 12]) 1 119 [ig 5, vi 3] 2, pa 4 0], [1, 3]⟩
def Bl84_7 := [bb 25 (d3 0), bb 3 [vi 3], bb 3 [vi 4], bb 28 o6, bb 101 [vs 11, vu 12]]
def Fl84_8 := fs Fl84_4 [(8, ps 5 0), (9, ps 6 0), (14, tu [ag [vs 15, vu 16], ag [vs 17, vu 18]]), (15, vi 3), (16, ag [vs 13, vu 14]), (17, .fn (clF 122) [ps 4 0, ps 1 0, ps 2 0]), (18, tu [ag [vs 15, vu 16], ag [vs 17, vu 18]]), (19, ag [vs 15, vu 16]), (20, ag [vs 17, vu 18])]
def Bl84_9 := [bb 25 (d3 0), bb 3 [vi 3], bb 3 [vi 4], bb 28 o6, bb 101 [vs 11, vu 12], bb 101 [lz, lu 0], bb 101 [lz, lu 0]]
def Rl84_10 : Rg := ⟨9, 13, 5, Fl84_4, Bl84_9, [pl (vi 3) 0 1 0, pc (ag [vs 13, vu 14]) 0 121 [vi 3] 2, pv (.fn (clF 122) [ps 4 0, ps 1 0, ps 2 0]) 0, ⟨tu [ag [vs 15, vu 16], ag [vs 17, vu 18]], 1, [], .cl 1 120 [ag [vs 13, vu 14], .fn (clF 122) [ps 4 0, ps 1 0, ps 2 0]] 4 [1, 2, 4], tu [ag [vs 15, vu 16], ag [vs 17, vu 18]]⟩, pv (tu [ag [vs 15, vu 16], ag [vs 17, vu 18]]) 2, pv (ag [vs 15, vu 16]) 2, pv (ag [vs 17, vu 18]) 2, pa 5 0, pa 6 0], [1, 3]⟩
def Bl84_11 := [bb 25 (d3 0), bb 3 [vi 3], bb 3 [vi 4], bb 28 o6, bb 101 [vs 11, vu 12], bb 101 [vs 15, vu 16], bb 101 [vs 17, vu 18]]
def Fl84_12 := fs Fl84_8 [(21, ag [vs 15, vu 16]), (22, ag [vs 17, vu 18]), (23, ag [vs 19, vu 20]), (24, vi 3), (25, ig 21)]
def Rl84_13 : Rg := ⟨5, 19, 7, Fl84_8, Bl84_11, [pl (ag [vs 15, vu 16]) 0 5 0, pl (ag [vs 17, vu 18]) 0 6 0, pc (ag [vs 19, vu 20]) 0 125 [ag [vs 15, vu 16], ag [vs 17, vu 18]] 2, pl (vi 3) 0 1 0, pc (ig 21) 1 126 [ag [vs 19, vu 20], vi 3] 6], [2, 4]⟩
def Bl84_14 := [bb 25 (d3 0), bb 3 [vi 3], bb 3 [vi 4], bb 28 (i6 21), bb 101 [vs 11, vu 12], bb 101 [vs 15, vu 16], bb 101 [vs 17, vu 18]]
theorem small_q {v : Value} {a : Rat} {N q m : Nat} {w : World} (h : CQ w v a N) (ha : 0 ≤ a) (ha2 : 256 * a ≤ 1) (hN : N ≤ 33554432) (hq1 : 64 ≤ q) (hq2 : q ≤ 40000) (hm : m ≤ 1) (hT : TB w) :
 Calls Tryz.prog 84 #[v, .int .i64 (q : Int), .int .i64 (m : Int)] w fun en w' => ∃ v' lo hi, en = .returned v' ∧ PI w' w.heap.size v' lo hi (q + 64) ∧ Sml m q a lo hi ∧ BL w w' := by
 obtain ⟨b0, A0, n0, c0, x0, rfl⟩ := h.ex
 have hq : 8 ≤ q := by omega
 refine fn_enter (u := 64) (fn := Tryz.f84) Tryz.func84 rfl Fl84_0 [.bool b0, .slice A0 n0 c0, .int .i64 x0, .int .i64 (q : Int), .int .i64 (m : Int)] (by kernel_rfl) rfl (fun a0 S0 r0 => ?_)
 refine wp_seq (rk Rl84_3 [] Fl84_1 Bl84_2 S0 r0 ?_)
 intro _ _ _ r1 S1
 refine wp_seq (rk Rl84_6 [.st 4 0 [vs 11, vu 12]] Fl84_4 Bl84_7 S1 r1 ?_)
 intro _ _ r2 _
 refine (point_q (h.below r2.first) (by omega) (tb hT r2)).mono ?_
 rintro _ V1 ⟨v, rfl, h1, k1⟩
 obtain ⟨b1, A1, n1, c1, x1, d1, B1, m1, e1, y1, rfl⟩ := h1.ex
 replace h1 := h1.lower r2.fs
 refine ⟨[.bool b1, .slice A1 n1 c1, .int .i64 x1, .bool d1, .slice B1 m1 e1, .int .i64 y1], rfl, rfl, rfl, k1, ?_⟩
 intro _ _ r3 _
 refine (from_f (K := q + 1) (h1.lat (r3.at_ 0 _ rfl)).c ha Rat.le_refl (by omega) (from_top ha2 q) (by omega) (by rw [Rat.sub_self]; decide +kernel) (tb hT r3)).mono ?_
 rintro _ V2 ⟨v, f, rfl, h2, fa, fb, k2⟩
 obtain ⟨A2, n2, c2, rfl⟩ := h2.ex
 replace h2 := h2.lower r3.fs
 refine ⟨[.slice A2 n2 c2, .int .u64 ((f.2 : Nat) : Int)], rfl, rfl, rfl, k2, ?_⟩
 obtain ⟨hfi, hf2⟩ := fi_of_flo fa fb
 have hx := fi_256 hfi ha2
 obtain ⟨n, n1, n2, n3, n4⟩ := te_end hq m hx hf2
 have HT := terms_of hq (by omega) hx hf2 n1 n2 n3 n4
 obtain ⟨err, herr⟩ : ∃ e, e = (seF (2 ^ q) f m n).2 + 2 * ((teF (2 ^ q) f m n).2 + 4) := ⟨_, rfl⟩
 have HE := small_encl hq hfi ha ha2 hf2 n1 n3 herr
 intro _ _ _ r4 S4
 refine wp_seq (rk Rl84_10 [.st 5 0 [vs 15, vu 16], .st 6 0 [vs 17, vu 18]] Fl84_8 Bl84_11 S4 r4 ?_)
 intro _ _ r5 _
 refine (one_f q (by omega) _).mono ?_
 rintro _ V3 ⟨v, rfl, h3, k3⟩
 obtain ⟨A3, n3, c3, rfl⟩ := h3.ex
 replace h3 := h3.lower r5.fs
 refine ⟨[.slice A3 n3 c3, .int .u64 ((0 : Nat) : Int)], rfl, rfl, rfl, k3, ?_⟩
 intro W6 g6 r6 q6
 refine (sum_f (te := teF (2 ^ q) f m) (ev := evF (2 ^ q) f m) (od := odF (2 ^ q) f m) (n := n) (h3.lat (r6.at_ 2 _ rfl)) HT (entB_ok (by kernel_rfl)) (fun W u k hk hb hp => step_f hb (q6 4 (by decide) _ rfl) (q6 1 (by decide) _ rfl) (q6 2 (by decide) _ rfl) hp.c ((h2.lat (r6.at_ 1 _ rfl)).below hb).c (by have := HT.tb k (by omega); have := te_bl hq hx hf2 m k; omega) (by have := bl_2u (w := q) (a := f.1) (by omega); omega) (by have := HT.tb k (by omega); omega) (by omega) (by omega) (by have := HT.n31; omega) (by omega) (by have := mul_err (m := m) (k := k) hq hx hf2; omega) (by have := mul_bl hq hx hf2 m k; omega) (tab_below (tb hT r6) hb))).mono ?_
 rintro _ V4 ⟨v1, v2, rfl, ha4, hb4, k4⟩
 obtain ⟨A4, n4, c4, rfl⟩ := ha4.ex
 obtain ⟨B4, m4, d4, rfl⟩ := hb4.ex
 refine ⟨[.slice A4 n4 c4, .int .u64 (((evF (2 ^ q) f m n).2 + ((teF (2 ^ q) f m n).2 + 4) : Nat) : Int), .slice B4 m4 d4, .int .u64 (((odF (2 ^ q) f m n).2 + ((teF (2 ^ q) f m n).2 + 4) : Nat) : Int)], rfl, rfl, rfl, k4, ?_⟩
 intro _ _ _ r7 S7
 refine wp_seq (rk Rl84_13 [.st 3 0 (i6 21)] Fl84_12 Bl84_14 S7 r7 ?_)
 intro _ _ r8 _
 refine (add_f (ha4.lat (r8.at_ 3 _ rfl)).c (hb4.lat (r8.at_ 3 _ rfl)).c (HT.eb n (Nat.le_refl _)).1 (HT.ob n (Nat.le_refl _)).1 (by have := HT.eb n (Nat.le_refl _); have := HT.ob n (Nat.le_refl _); have := HT.tb n (Nat.le_refl _); show _ + _ + (_ + _) < _; omega)).mono ?_
 rintro _ V5 ⟨v, rfl, h5, k5⟩
 rw [sum_fin herr] at h5
 obtain ⟨A5, n5, c5, rfl⟩ := h5.ex
 replace h5 := h5.lower r8.fs
 refine ⟨[.slice A5 n5 c5, .int .u64 ((err : Nat) : Int)], rfl, rfl, rfl, k5, ?_⟩
 intro _ _ r9 _
 refine (ival_f (N := q + 64) (h5.lat (r9.at_ 4 _ rfl)).c (by have := bl_2u (w := q) (a := (seF (2 ^ q) f m n).1) HE.2.2.1; show bl (seF (2 ^ q) f m n).1 + 1 ≤ _; omega) (by have := bl64 (x := err) (by omega); show bl err + 1 ≤ _; omega) (by omega) (by omega) (by show err < _; omega) (tb hT r9)).mono ?_
 rintro _ V6 ⟨v, rfl, h6, k6⟩
 obtain ⟨b6, A6, n6, c6, x6, d6, B6, m6, e6, y6, rfl⟩ := h6.ex
 replace h6 := h6.lower r9.fs
 refine ⟨[.bool b6, .slice A6 n6 c6, .int .i64 x6, .bool d6, .slice B6 m6 e6, .int .i64 y6], rfl, rfl, rfl, k6, ?_⟩
 intro _ _ _ r10 S10
 exact rt S10 [.agg #[.bool b6, .slice A6 n6 c6, .int .i64 x6, .bool d6, .slice B6 m6 e6, .int .i64 y6]] (⟨_, _, _, rfl, (h6.lat (r10.at_ 5 _ rfl)), sml_fin hq1 hq2 n2 HE, r10.first⟩)
theorem pw_le {a b : Int} (h : (2 : Rat) ^ a ≤ (2 : Rat) ^ b) : a ≤ b := by
 obtain ⟨g, i, j, rfl, rfl, _⟩ := Dv_common a b
 rw [← Dv_one, ← Dv_one, ← Dv_shift, ← Dv_shift, Dv_le] at h
 simp only [Int.one_mul] at h
 have h2 : (2 : Nat) ^ i ≤ 2 ^ j := by exact_mod_cast h
 have := (Nat.pow_le_pow_iff_right (by decide : 1 < 2)).1 h2
 omega
theorem pw_lt {a b : Int} (h : (2 : Rat) ^ a < (2 : Rat) ^ b) : a < b := by
 refine Int.lt_of_not_ge fun hle => ?_
 obtain ⟨g, i, j, rfl, rfl, _⟩ := Dv_common a b
 rw [← Dv_one, ← Dv_one, ← Dv_shift, ← Dv_shift, Dv_lt] at h
 simp only [Int.one_mul] at h
 have h2 : (2 : Nat) ^ i < 2 ^ j := by exact_mod_cast h
 have := (Nat.pow_lt_pow_iff_right (by decide : 1 < 2)).1 h2
 omega
theorem pw_mono {a b : Int} (h : a ≤ b) : (2 : Rat) ^ a ≤ (2 : Rat) ^ b := by
 refine Rat.not_lt.1 fun hlt => ?_
 have := pw_lt hlt
 omega
theorem inv_pow (M : Nat) : (((2 ^ M : Nat) : Rat))⁻¹ = (2 : Rat) ^ (-(M : Int)) := by
 have := Dv_down 1 M
 rw [show ((1 : Nat) : Int) = 1 from rfl, Dv_one, show ((1 : Nat) : Rat) = 1 from rfl, Rat.one_mul] at this
 exact this.symm
theorem Short.fit {P M : Nat} {q : Rat} (h : Short P q) (h0 : (((2 ^ M : Nat) : Rat))⁻¹ ≤ q) (h1 : q ≤ ((2 ^ M : Nat) : Rat)) : ∃ y f, q = Dv y f ∧ Bd (M + P + 1) y f := by
 obtain ⟨y, f, rfl, hy⟩ := h
 have hpos : 0 < Dv y f := by
  have : (0 : Rat) < (((2 ^ M : Nat) : Rat))⁻¹ := Rat.inv_pos.2 (upos (Nat.two_pow_pos M))
  grind
 have hy0 : 0 < y := Dv_pos.1 hpos
 refine ⟨y, f, rfl, Nat.lt_of_le_of_lt hy (Nat.pow_lt_pow_right (by decide) (by omega)), ?_, ?_⟩
 · rw [inv_pow] at h0
   have h2 : Dv y f ≤ (2 : Rat) ^ ((P : Int) + f) := by
    rw [← Dv_one, show (P : Int) + f = f + (P : Int) by omega, ← Dv_shift, Dv_le, Int.one_mul]
    have : (y.natAbs : Int) ≤ ((2 ^ P : Nat) : Int) := by exact_mod_cast hy
    have e : ((2 ^ P : Nat) : Int) = 2 ^ P := by norm_cast
    omega
   have := pw_le (Rat.le_trans h0 h2)
   omega
 · have h2 : (2 : Rat) ^ f ≤ Dv y f := by
    rw [← Dv_one, Dv_le]; omega
   rw [← two_w] at h1
   have := pw_le (Rat.le_trans h2 h1)
   omega
theorem PQ.fit {w : World} {b N P M K : Nat} {v : Value} {q : Rat} (h : PQ w b v q N) (hs : Short P q) (h0 : (((2 ^ M : Nat) : Rat))⁻¹ ≤ q) (h1 : q ≤ ((2 ^ M : Nat) : Rat)) (hK : M + P + 1 ≤ K) : PQ w b v q K := by
 obtain ⟨y, f, h2, h3⟩ := hs.fit h0 h1
 exact (h.tight h2 h3).more hK
theorem PI.fit {w : World} {b N P M K : Nat} {v : Value} {l u : Rat} (h : PI w b v l u N) (hs : Short P l) (hs' : Short P u) (h0 : (((2 ^ M : Nat) : Rat))⁻¹ ≤ l) (hlu : l ≤ u) (h1 : u ≤ ((2 ^ M : Nat) : Rat)) (hK : M + P + 1 ≤ K) : PI w b v l u K := by
 obtain ⟨b1, A, n, c, x, d, B, m, e, y, rfl, q1, q2⟩ := h
 exact ⟨b1, A, n, c, x, d, B, m, e, y, rfl, q1.fit hs h0 (Rat.le_trans hlu h1) hK, q2.fit hs' (Rat.le_trans h0 hlu) h1 hK⟩
theorem top_pure {z e : Int} (h0 : 0 < z) : (2 : Rat) ^ (cexp z e + (bl (cman z) : Int) - 1) ≤ Dv z e ∧ Dv z e < (2 : Rat) ^ (cexp z e + (bl (cman z) : Int) - 1 + 1) := by
 have hc : cman z ≠ 0 := fun h => by have := cman_eq_zero.1 h; omega
 have hb := bl_pos hc
 have hn : cneg z = false := by unfold cneg; exact decide_eq_false (by omega)
 obtain ⟨k, hk⟩ : ∃ k, bl (cman z) = k + 1 := ⟨bl (cman z) - 1, by omega⟩
 have h1 := bl_le hc
 have h2 := bl_lt (cman z)
 rw [hk] at h1 h2 ⊢
 rw [Dv_form z e, hn]
 rw [show cexp z e + ((k + 1 : Nat) : Int) - 1 = cexp z e + (k : Int) by omega, show cexp z e + (k : Int) + 1 = cexp z e + ((k + 1 : Nat) : Int) by omega]
 rw [← Dv_one, ← Dv_one, ← Dv_shift, ← Dv_shift, Dv_le, Dv_lt]
 simp only [Int.one_mul]
 show (2 : Int) ^ k ≤ (cman z : Int) ∧ (cman z : Int) < 2 ^ (k + 1)
 simp only [Nat.add_sub_cancel] at h1
 exact ⟨by exact_mod_cast h1, by exact_mod_cast h2⟩
theorem four_sq {l u x y : Rat} (h0 : 0 ≤ l) (hlu : l ≤ u) (h : Four (mul4 l u l u) x y) : x = l * l ∧ y = u * u := by
 obtain ⟨i, j, hi, hj, hq, rfl, rfl⟩ := h
 have e1 : l * l ≤ l * u := Rat.mul_le_mul_of_nonneg_left hlu h0
 have e2 : l * u ≤ u * u := Rat.mul_le_mul_of_nonneg_right hlu (Rat.le_trans h0 hlu)
 have e3 : u * l = l * u := Rat.mul_comm _ _
 have lo : ∀ k, l * l ≤ mul4 l u l u k := fun k => by
  unfold mul4; split
  · exact Rat.le_refl
  · exact e1
  · rw [e3]; exact e1
  · exact Rat.le_trans e1 e2
 have hi2 : ∀ k, mul4 l u l u k ≤ u * u := fun k => by
  unfold mul4; split
  · exact Rat.le_trans e1 e2
  · exact e2
  · rw [e3]; exact e2
  · exact Rat.le_refl
 exact ⟨Rat.le_antisymm (hq 0 (by decide)).1 (lo i), Rat.le_antisymm (hi2 j) (hq 3 (by decide)).2⟩
theorem sm_one {m : Nat} {x : Rat} (hx : 0 ≤ x) (n : Nat) : 1 ≤ sm m x (n + 1) := by
 have h := sm_le (m := m) hx (show 1 ≤ n + 1 by omega)
 have : sm m x 1 = 1 := by
  show sm m x 0 + tm m x 0 = 1
  show (0 : Rat) + 1 = 1
  decide +kernel
 rw [this] at h; exact h
theorem top_q {v : Value} {q : Rat} {N : Nat} {w : World} (h : CQ w v q N) (h0 : 0 < q) (hN : N ≤ 67108864) :
 Calls Tryz.prog 80 #[v] w fun en w' => ∃ T : Int, en = .returned (.int .i64 T) ∧ (2 : Rat) ^ T ≤ q ∧ q < (2 : Rat) ^ (T + 1) ∧ -67108865 ≤ T ∧ T ≤ 268435456 ∧ BL w w' := by
 obtain ⟨z, e, h, rfl, hB⟩ := h
 have l := bd_len hB; have lo := bd_lo hB; have hi := bd_hi hB
 have hbl : bl (cman z) ≤ N := bl_le_iff.2 (bd_man hB)
 obtain ⟨h1, h2⟩ := top_pure (e := e) (Dv_pos.1 h0)
 refine (ptop_dy v z e w h (by omega) (by omega) (by omega)).mono ?_
 rintro en w' ⟨rfl, hb⟩
 exact ⟨_, rfl, h1, h2, by omega, by omega, hb⟩
structure Ab (k : Nat) (x l h : Rat) : Prop where
 ex : Ex l h x
 nar : Nar l h (ep k)
 le : l ≤ h
theorem Ab.of_small {w : Nat} {x l h : Rat} (hw : 15 ≤ w) (s : Sml 0 w x l h) : Ab (w - 14) x l h := by
 refine ⟨s.encl, ⟨?_, ?_⟩, s.le⟩
 · have := s.one; grind
 · have h1 := s.nar
   have h2 := Rat.mul_le_mul_of_nonneg_right s.one (Rat.le_of_lt (ep_pos (w - 14)))
   grind
theorem Ab.sq {k P : Nat} {x l h l' h' : Rat} (a : Ab (k + 2) x l h) (hx : 0 ≤ x) (hk : 2 ≤ k) (hP : k + 5 ≤ P) (h1 : CutOf false (l * l) l' (ep P)) (h2 : CutOf true (h * h) h' (ep P)) : Ab k (2 * x) l' h' := by
 have l0 := a.nar.1
 have hl0 : 0 ≤ l * l := Rat.mul_nonneg (Rat.le_of_lt l0) (Rat.le_of_lt l0)
 have hh0 : 0 ≤ h * h := Rat.mul_nonneg (Rat.le_trans (Rat.le_of_lt l0) a.le) (Rat.le_trans (Rat.le_of_lt l0) a.le)
 have c1 := h1.1 hl0
 have c2 := h2.1 hh0
 obtain ⟨j, hj⟩ : ∃ j, k = j + 1 := ⟨k - 1, by omega⟩
 have e8 : 8 * ep (k + 2) ≤ 1 := by
  rw [hj, show j + 1 + 2 = j + 3 by omega, eight_ep]; exact ep_small (by omega)
 have e9 : 8 * ep P ≤ ep (k + 2) := by
  rw [← eight_ep (k + 2)]
  have := ep_le (p := k + 2 + 3) (q := P) (by omega)
  grind
 obtain ⟨n1, n2, n3⟩ := sq_step a.nar a.le hx a.ex c1 c2 e8 (Rat.le_of_lt (ep_pos P)) e9
 rw [four_ep] at n1
 exact ⟨n3, n1, n2⟩
theorem Ab.size {k n : Nat} {x l h : Rat} (hn : n = 8192) (a : Ab k x l h) (hk : 1 ≤ k) (hx : 0 ≤ x) (hx2 : x ≤ 16384) : (((2 ^ (3 * n + 1) : Nat) : Rat))⁻¹ ≤ l ∧ h ≤ ((2 ^ (3 * n + 1) : Nat) : Rat) := by
 have h2 : h ≤ l * 2 := by
  have := a.nar.2
  have l0 := a.nar.1
  have e := ep_small hk
  have := Rat.mul_le_mul_of_nonneg_left e (Rat.le_of_lt l0)
  grind
 have hex : Exs l h x := ⟨a.nar.1, a.le, .inl ⟨hx, a.ex⟩⟩
 have e : ((2 * n : Nat) : Rat) = 16384 := by rw [hn]; decide +kernel
 exact hex.sizes (n := n) (by rw [e]; grind) (by rw [e]; exact hx2) h2
theorem half_pow (a : Rat) (s i : Nat) : 2 * (a * (2 : Rat) ^ ((i : Int) - (s : Int))) = a * (2 : Rat) ^ (((i + 1 : Nat) : Int) - (s : Int)) := by
 rw [show ((i + 1 : Nat) : Int) - (s : Int) = ((i : Int) - (s : Int)) + 1 by omega, Rat.zpow_add two_ne, Rat.zpow_one]
 grind
theorem scaled_le {a : Rat} {s i : Nat} (h0 : 0 ≤ a) (hi : i ≤ s) (h : a ≤ 16384) : 0 ≤ a * (2 : Rat) ^ ((i : Int) - (s : Int)) ∧ a * (2 : Rat) ^ ((i : Int) - (s : Int)) ≤ 16384 := by
 have h1 : (2 : Rat) ^ ((i : Int) - (s : Int)) ≤ 1 := by
  have := pw_mono (a := (i : Int) - (s : Int)) (b := 0) (by omega)
  rwa [Rat.zpow_zero] at this
 have h2 : (0 : Rat) ≤ (2 : Rat) ^ ((i : Int) - (s : Int)) := Rat.le_of_lt (Dv_pow_pos _)
 refine ⟨Rat.mul_nonneg h0 h2, ?_⟩
 have := Rat.mul_le_mul_of_nonneg_left h1 h0
 grind
theorem top_s {a : Rat} {T : Int} (h1 : (2 : Rat) ^ T ≤ a) (h2 : a < (2 : Rat) ^ (T + 1)) (ha : a ≤ 16384) (hT : -67108865 ≤ T) : ∃ s : Nat, (if 0 > T + 9 then 0 else T + 9) = (s : Int) ∧ s ≤ 23 ∧ 256 * (a * (2 : Rat) ^ (-(s : Int))) ≤ 1 := by
 have e14 : (16384 : Rat) = (2 : Rat) ^ (14 : Int) := by decide +kernel
 have h3 : T ≤ 14 := by rw [e14] at ha; exact pw_le (Rat.le_trans h1 ha)
 refine ⟨(if 0 > T + 9 then 0 else T + 9).toNat, ?_, ?_, ?_⟩
 · split <;> omega
 · split <;> omega
 · generalize hs : (if 0 > T + 9 then 0 else T + 9) = sI
   have hsI : T + 9 ≤ sI ∧ 0 ≤ sI := by rw [← hs]; split <;> omega
   rw [Int.toNat_of_nonneg hsI.2]
   have h4 := Rat.mul_le_mul_of_nonneg_right (Rat.le_of_lt h2) (Rat.le_of_lt (Dv_pow_pos (-sI)))
   rw [← Rat.zpow_add two_ne] at h4
   have h5 := pw_mono (a := T + 1 + -sI) (b := -8) (by omega)
   have e8 : (256 : Rat) * (2 : Rat) ^ (-8 : Int) = 1 := by decide +kernel
   have := Rat.mul_le_mul_of_nonneg_left (Rat.le_trans h4 h5) (show (0 : Rat) ≤ 256 by decide +kernel)
   rw [e8] at this; exact this
theorem Ab.start {p s : Nat} {a lo hi : Rat} (hp : 8 ≤ p) (hs : s ≤ 23) (h : Sml 0 (p + 2 * s + 64) (a * (2 : Rat) ^ (-(s : Int))) lo hi) : Ab (p + 50 + 2 * (s - 0)) (a * (2 : Rat) ^ (((0 : Nat) : Int) - (s : Int))) lo hi := by
 have := Ab.of_small (by omega) h
 rw [show p + 2 * s + 64 - 14 = p + 50 + 2 * (s - 0) by omega] at this
 rw [show ((0 : Nat) : Int) - (s : Int) = -(s : Int) by omega]
 exact this
theorem ab_step {p s i : Nat} {a lo hi l u : Rat} (hp : 8 ≤ p) (ha : 0 ≤ a) (ha2 : a ≤ 16384) (hi2 : i + 1 ≤ s) (f : Ab (p + 50 + 2 * (s - i)) (a * (2 : Rat) ^ ((i : Int) - (s : Int))) lo hi) (h : ∃ x y, Four (mul4 lo hi lo hi) x y ∧ CutOf false x l (ep (p + 2 * s + 64 + 8)) ∧ CutOf true y u (ep (p + 2 * s + 64 + 8))) :
 Ab (p + 50 + 2 * (s - (i + 1))) (a * (2 : Rat) ^ (((i + 1 : Nat) : Int) - (s : Int))) l u := by
 obtain ⟨x, y, h4, c1, c2⟩ := h
 obtain ⟨rfl, rfl⟩ := four_sq (Rat.le_of_lt f.nar.1) f.le h4
 rw [show p + 50 + 2 * (s - i) = p + 50 + 2 * (s - (i + 1)) + 2 by omega] at f
 rw [← half_pow]
 exact f.sq (scaled_le ha (by omega) ha2).1 (by omega) (by omega) c1 c2
theorem fit_ab {p s i N b : Nat} {a l u : Rat} {v : Value} {W : World} (hp : 8 ≤ p) (hp2 : p ≤ 5000) (hs : s ≤ 23) (ha : 0 ≤ a) (ha2 : a ≤ 16384) (hi2 : i + 1 ≤ s) (h : PI W b v l u N) (s1 : Short (p + 2 * s + 64 + 8) l) (s2 : Short (p + 2 * s + 64 + 8) u) (f : Ab (p + 50 + 2 * (s - (i + 1))) (a * (2 : Rat) ^ (((i + 1 : Nat) : Int) - (s : Int))) l u) : PI W b v l u 32768 := by
 obtain ⟨n, hn⟩ : ∃ n, n = 8192 := ⟨_, rfl⟩
 obtain ⟨q1, q2⟩ := f.size hn (by omega) (scaled_le ha hi2 ha2).1 (scaled_le ha hi2 ha2).2
 exact h.fit s1 s2 q1 f.le q2 (by omega)
theorem wrap3 {p s : Nat} (hp : p ≤ 5000) (hs : s ≤ 23) : IntKind.i64.wrap (IntKind.i64.wrap ((p : Int) + IntKind.i64.wrap (2 * (s : Int))) + 64) = ((p + 2 * s + 64 : Nat) : Int) := by
 rw [i64_id (x := 2 * (s : Int)) (by omega) (by omega), i64_id (x := (p : Int) + 2 * (s : Int)) (by omega) (by omega), i64_id (by omega) (by omega)]; omega
theorem ab_end {p s i : Nat} {a l u : Rat} (h : i = s) (f : Ab (p + 50 + 2 * (s - i)) (a * (2 : Rat) ^ ((i : Int) - (s : Int))) l u) : Ab (p + 50) a l u := by
 subst h
 rw [show p + 50 + 2 * (i - i) = p + 50 by omega, Int.sub_self, Rat.zpow_zero, Rat.mul_one] at f
 exact f
def Fm71_0 := [dg 0, vi 3, U, U, U, U, U, U, U, U, U, U, U, U, U, U, U, U, U, U, U, U, U, U, U, U, U, U, U, U, U, U, U, U, U, U]
def Fm71_1 := fs Fm71_0 [(2, ps 0 0), (4, ps 1 0)]
def Bm71_2 := [bb 25 (d3 0), bb 28 o6]
def Rm71_3 : Rg := ⟨2, 4, 0, Fm71_0, Bm71_2, [pa 0 0, pa 1 0], []⟩
def Fm71_4 := fs Fm71_1 [(5, li 0)]
def Rm71_5 : Rg := ⟨1, 4, 2, Fm71_1, Bm71_2, [pv (li 0) 0], []⟩
def Fm71_6 := fs Fm71_4 [(8, dg 0), (9, vb 4), (10, f1 noF (vb 4))]
def Rm71_7 : Rg := ⟨3, 4, 2, Fm71_4, Bm71_2, [pl (dg 0) 0 0 0, pc (vb 4) 0 79 [dg 0] 1, pv (f1 noF (vb 4)) 1], [1]⟩
def Fm71_8 := fs Fm71_6 [(5, f2 mxF (bo .add (vi 5) (li 9)) (li 0)), (11, dg 0), (12, vi 5), (13, bo .add (vi 5) (li 9)), (14, f2 mxF (bo .add (vi 5) (li 9)) (li 0))]
def Rm71_9 : Rg := ⟨5, 5, 2, Fm71_6, Bm71_2, [pl (dg 0) 0 0 0, pc (vi 5) 0 80 [dg 0] 1, pv (bo .add (vi 5) (li 9)) 1, pv (f2 mxF (bo .add (vi 5) (li 9)) (li 0)) 1, pv (f2 mxF (bo .add (vi 5) (li 9)) (li 0)) 1], [1]⟩
def Fm71_10 := fs Fm71_8 [(6, bo .add (bo .add (vi 3) (bo .mul (li 2) (f2 mxF (bo .add (vi 5) (li 9)) (li 0)))) (li 64)), (15, vi 3), (16, f2 mxF (bo .add (vi 5) (li 9)) (li 0)), (17, bo .mul (li 2) (f2 mxF (bo .add (vi 5) (li 9)) (li 0))), (18, bo .add (vi 3) (bo .mul (li 2) (f2 mxF (bo .add (vi 5) (li 9)) (li 0)))), (19, bo .add (bo .add (vi 3) (bo .mul (li 2) (f2 mxF (bo .add (vi 5) (li 9)) (li 0)))) (li 64))]
def Rm71_11 : Rg := ⟨6, 6, 2, Fm71_8, Bm71_2, [pv (vi 3) 0, pv (f2 mxF (bo .add (vi 5) (li 9)) (li 0)) 0, pv (bo .mul (li 2) (f2 mxF (bo .add (vi 5) (li 9)) (li 0))) 0, pv (bo .add (vi 3) (bo .mul (li 2) (f2 mxF (bo .add (vi 5) (li 9)) (li 0)))) 0, pv (bo .add (bo .add (vi 3) (bo .mul (li 2) (f2 mxF (bo .add (vi 5) (li 9)) (li 0)))) (li 64)) 0, pv (bo .add (bo .add (vi 3) (bo .mul (li 2) (f2 mxF (bo .add (vi 5) (li 9)) (li 0)))) (li 64)) 0], []⟩
def Fm71_12 := fs Fm71_10 [(7, ps 2 0), (20, dg 0), (21, f2 mxF (bo .add (vi 5) (li 9)) (li 0)), (22, f1 ngF (f2 mxF (bo .add (vi 5) (li 9)) (li 0))), (23, dg 6), (24, bo .add (bo .add (vi 3) (bo .mul (li 2) (f2 mxF (bo .add (vi 5) (li 9)) (li 0)))) (li 64)), (25, ig 9)]
def Bm71_13 := [bb 25 (d3 0), bb 28 o6, bb 28 o6]
def Rm71_14 : Rg := ⟨7, 6, 2, Fm71_10, Bm71_13, [pl (dg 0) 0 0 0, pv (f2 mxF (bo .add (vi 5) (li 9)) (li 0)) 0, pv (f1 ngF (f2 mxF (bo .add (vi 5) (li 9)) (li 0))) 0, pc (dg 6) 0 96 [dg 0, f1 ngF (f2 mxF (bo .add (vi 5) (li 9)) (li 0))] 3, pv (bo .add (bo .add (vi 3) (bo .mul (li 2) (f2 mxF (bo .add (vi 5) (li 9)) (li 0)))) (li 64)) 0, pc (ig 9) 1 84 [dg 6, bo .add (bo .add (vi 3) (bo .mul (li 2) (f2 mxF (bo .add (vi 5) (li 9)) (li 0)))) (li 64), li 0] 6, pa 2 0], [3, 5]⟩
def Bm71_15 := [bb 25 (d3 0), bb 28 o6, bb 28 (i6 9)]
def Fm71_16 := fs Fm71_12 [(26, f2 mxF (bo .add (vi 5) (li 9)) (li 0)), (27, li 0)]
def Rm71_17 : Rg := ⟨2, 15, 3, Fm71_12, Bm71_15, [pv (f2 mxF (bo .add (vi 5) (li 9)) (li 0)) 0, pv (li 0) 0], []⟩
def Lm71_18 (jj1 : List Value) := [dg 0, vi 3, ps 0 0, U, ps 1 0, f2 mxF (bo .add (vi 5) (li 9)) (li 0), bo .add (bo .add (vi 3) (bo .mul (li 2) (f2 mxF (bo .add (vi 5) (li 9)) (li 0)))) (li 64), ps 2 0, dg 0, vb 4, f1 noF (vb 4), dg 0, vi 5, bo .add (vi 5) (li 9), f2 mxF (bo .add (vi 5) (li 9)) (li 0), vi 3, f2 mxF (bo .add (vi 5) (li 9)) (li 0), bo .mul (li 2) (f2 mxF (bo .add (vi 5) (li 9)) (li 0)), bo .add (vi 3) (bo .mul (li 2) (f2 mxF (bo .add (vi 5) (li 9)) (li 0))), bo .add (bo .add (vi 3) (bo .mul (li 2) (f2 mxF (bo .add (vi 5) (li 9)) (li 0)))) (li 64), dg 0, f2 mxF (bo .add (vi 5) (li 9)) (li 0), f1 ngF (f2 mxF (bo .add (vi 5) (li 9)) (li 0)), dg 6, bo .add (bo .add (vi 3) (bo .mul (li 2) (f2 mxF (bo .add (vi 5) (li 9)) (li 0)))) (li 64), ig 9, f2 mxF (bo .add (vi 5) (li 9)) (li 0), vi 21, jw jj1 0, jw jj1 1, jw jj1 2, jw jj1 3, jw jj1 4, jw jj1 5, jw jj1 6, U]
def Bm71_19 := [bb 25 (d3 0), bb 28 o6, bb 28 (i6 15)]
def Jm71_20 : List Nat := [28, 29, 30, 31, 32, 33, 34]
def Fm71_21 (jj1 : List Value) := fs (Lm71_18 jj1) [(28, bo .lss (vi 21) (f2 mxF (bo .add (vi 5) (li 9)) (li 0)))]
def Rm71_22 (jj1 : List Value) : Rg := ⟨1, 22, 3, (Lm71_18 jj1), Bm71_19, [pv (bo .lss (vi 21) (f2 mxF (bo .add (vi 5) (li 9)) (li 0))) 0], []⟩
def Fm71_23 (jj1 : List Value) := fs (Fm71_21 jj1) [(29, ig 15), (30, ig 15), (31, bo .add (bo .add (vi 3) (bo .mul (li 2) (f2 mxF (bo .add (vi 5) (li 9)) (li 0)))) (li 64)), (32, bo .add (bo .add (bo .add (vi 3) (bo .mul (li 2) (f2 mxF (bo .add (vi 5) (li 9)) (li 0)))) (li 64)) (li 8)), (33, ig 22)]
def Rm71_24 (jj1 : List Value) : Rg := ⟨5, 22, 3, (Fm71_21 jj1), Bm71_19, [pl (ig 15) 0 2 0, pl (ig 15) 0 2 0, pv (bo .add (bo .add (vi 3) (bo .mul (li 2) (f2 mxF (bo .add (vi 5) (li 9)) (li 0)))) (li 64)) 0, pv (bo .add (bo .add (bo .add (vi 3) (bo .mul (li 2) (f2 mxF (bo .add (vi 5) (li 9)) (li 0)))) (li 64)) (li 8)) 0, pc (ig 22) 0 82 [ig 15, ig 15, bo .add (bo .add (bo .add (vi 3) (bo .mul (li 2) (f2 mxF (bo .add (vi 5) (li 9)) (li 0)))) (li 64)) (li 8)] 6], [4]⟩
def Bm71_25 := [bb 25 (d3 0), bb 28 o6, bb 28 (i6 22)]
def Fm71_26 (jj1 : List Value) := fs (Fm71_23 jj1) [(27, bo .add (vi 21) (li 1)), (34, bo .add (vi 21) (li 1))]
def Rm71_27 (jj1 : List Value) : Rg := ⟨1, 28, 3, (Fm71_23 jj1), Bm71_25, [pv (bo .add (vi 21) (li 1)) 0], []⟩
def Fm71_28 (jj1 : List Value) := fs (Fm71_21 jj1) [(35, ig 15)]
def Rm71_29 (jj1 : List Value) : Rg := ⟨1, 22, 3, (Fm71_21 jj1), Bm71_19, [pl (ig 15) 0 2 0], []⟩
def Bm71_30 := [bb 25 (d3 0), bb 28 (i6 15), bb 28 (i6 15)]
def Fm71_31 := fs Fm71_6 [(6, bo .add (bo .add (vi 3) (li 0)) (li 64)), (15, vi 3), (16, li 0), (17, li 0), (18, bo .add (vi 3) (li 0)), (19, bo .add (bo .add (vi 3) (li 0)) (li 64))]
def Rm71_32 : Rg := ⟨6, 5, 2, Fm71_6, Bm71_2, [pv (vi 3) 0, pv (li 0) 0, pv (li 0) 0, pv (bo .add (vi 3) (li 0)) 0, pv (bo .add (bo .add (vi 3) (li 0)) (li 64)) 0, pv (bo .add (bo .add (vi 3) (li 0)) (li 64)) 0], []⟩
def Fm71_33 := fs Fm71_31 [(7, ps 2 0), (20, dg 0), (21, li 0), (22, f1 ngF (li 0)), (23, dg 5), (24, bo .add (bo .add (vi 3) (li 0)) (li 64)), (25, ig 8)]
def Rm71_34 : Rg := ⟨7, 5, 2, Fm71_31, Bm71_13, [pl (dg 0) 0 0 0, pv (li 0) 0, pv (f1 ngF (li 0)) 0, pc (dg 5) 0 96 [dg 0, f1 ngF (li 0)] 3, pv (bo .add (bo .add (vi 3) (li 0)) (li 64)) 0, pc (ig 8) 1 84 [dg 5, bo .add (bo .add (vi 3) (li 0)) (li 64), li 0] 6, pa 2 0], [3, 5]⟩
def Bm71_35 := [bb 25 (d3 0), bb 28 o6, bb 28 (i6 8)]
def Fm71_36 := fs Fm71_33 [(26, li 0), (27, li 0)]
def Rm71_37 : Rg := ⟨2, 14, 3, Fm71_33, Bm71_35, [pv (li 0) 0, pv (li 0) 0], []⟩
def Lm71_38 (jj2 : List Value) := [dg 0, vi 3, ps 0 0, U, ps 1 0, li 0, bo .add (bo .add (vi 3) (li 0)) (li 64), ps 2 0, dg 0, vb 4, f1 noF (vb 4), U, U, U, U, vi 3, li 0, li 0, bo .add (vi 3) (li 0), bo .add (bo .add (vi 3) (li 0)) (li 64), dg 0, li 0, f1 ngF (li 0), dg 5, bo .add (bo .add (vi 3) (li 0)) (li 64), ig 8, li 0, vi 20, jw jj2 0, jw jj2 1, jw jj2 2, jw jj2 3, jw jj2 4, jw jj2 5, jw jj2 6, U]
def Bm71_39 := [bb 25 (d3 0), bb 28 o6, bb 28 (i6 14)]
def Fm71_40 (jj2 : List Value) := fs (Lm71_38 jj2) [(28, bo .lss (vi 20) (li 0))]
def Rm71_41 (jj2 : List Value) : Rg := ⟨1, 21, 3, (Lm71_38 jj2), Bm71_39, [pv (bo .lss (vi 20) (li 0)) 0], []⟩
def Fm71_42 (jj2 : List Value) := fs (Fm71_40 jj2) [(29, ig 14), (30, ig 14), (31, bo .add (bo .add (vi 3) (li 0)) (li 64)), (32, bo .add (bo .add (bo .add (vi 3) (li 0)) (li 64)) (li 8)), (33, ig 21)]
def Rm71_43 (jj2 : List Value) : Rg := ⟨5, 21, 3, (Fm71_40 jj2), Bm71_39, [pl (ig 14) 0 2 0, pl (ig 14) 0 2 0, pv (bo .add (bo .add (vi 3) (li 0)) (li 64)) 0, pv (bo .add (bo .add (bo .add (vi 3) (li 0)) (li 64)) (li 8)) 0, pc (ig 21) 0 82 [ig 14, ig 14, bo .add (bo .add (bo .add (vi 3) (li 0)) (li 64)) (li 8)] 6], [4]⟩
def Bm71_44 := [bb 25 (d3 0), bb 28 o6, bb 28 (i6 21)]
def Fm71_45 (jj2 : List Value) := fs (Fm71_42 jj2) [(27, bo .add (vi 20) (li 1)), (34, bo .add (vi 20) (li 1))]
def Rm71_46 (jj2 : List Value) : Rg := ⟨1, 27, 3, (Fm71_42 jj2), Bm71_44, [pv (bo .add (vi 20) (li 1)) 0], []⟩
def Fm71_47 (jj2 : List Value) := fs (Fm71_40 jj2) [(35, ig 14)]
def Rm71_48 (jj2 : List Value) : Rg := ⟨1, 21, 3, (Fm71_40 jj2), Bm71_39, [pl (ig 14) 0 2 0], []⟩
def Bm71_49 := [bb 25 (d3 0), bb 28 (i6 14), bb 28 (i6 14)]
theorem above_q {v : Value} {a : Rat} {N p : Nat} {w : World} (h : CQ w v a N) (ha : 0 ≤ a) (ha2 : a ≤ 16384) (hN : N ≤ 16777216) (hp : 8 ≤ p) (hp2 : p ≤ 5000) (hT : TB w) :
 Calls Tryz.prog 71 #[v, .int .i64 (p : Int)] w fun en w' => ∃ v' l u, en = .returned v' ∧ PI w' w.heap.size v' l u 32768 ∧ Ab (p + 50) a l u ∧ BL w w' := by
 obtain ⟨b0, A0, n0, c0, x0, rfl⟩ := h.ex
 refine fn_enter (u := 64) (fn := Tryz.f71) Tryz.func71 rfl Fm71_0 [.bool b0, .slice A0 n0 c0, .int .i64 x0, .int .i64 (p : Int)] (by kernel_rfl) rfl (fun a0 S0 r0 => ?_)
 refine wp_seq (rk Rm71_3 [] Fm71_1 Bm71_2 S0 r0 ?_)
 intro _ _ _ r1 S1
 refine wp_seq (rk Rm71_5 [] Fm71_4 Bm71_2 S1 r1 ?_)
 intro _ _ _ r2 S2
 refine wp_seq ?_
 refine wp_seq (rk Rm71_7 [] Fm71_6 Bm71_2 S2 r2 ?_)
 intro _ _ r3 _
 refine (zero_q (h.below r3.first) (by omega)).mono ?_
 rintro _ V1 ⟨rfl, k1⟩
 refine ⟨[.bool (decide (a = 0))], rfl, rfl, rfl, k1, ?_⟩
 intro _ _ _ r4 S4
 refine wp_cond_split (t := !(decide (a = 0))) (S4.cnd (by kernel_rfl)) (fun q1 => ?_) (fun q1 => ?_)
 · have hne : ¬ a = 0 := of_decide_eq_false (by simpa using q1)
   have hpos : 0 < a := by grind
   refine rk Rm71_9 [] Fm71_8 Bm71_2 S4 r4 ?_
   intro W5 g5 r5 _
   refine (top_q (h.below r5.first) hpos (by omega)).mono ?_
   rintro _ V2 ⟨T, rfl, t1, t2, t3, t4, k2⟩
   refine ⟨[.int .i64 T], rfl, rfl, rfl, k2, ?_⟩
   obtain ⟨s, hs, hs2, hsm⟩ := top_s t1 t2 ha2 t3
   have hT9 : IntKind.i64.wrap (T + 9) = T + 9 := i64_id (by omega) (by omega)
   have hs1 : (if 0 > IntKind.i64.wrap (T + 9) then 0 else IntKind.i64.wrap (T + 9)) = (s : Int) := by rw [hT9]; exact hs
   have hw : IntKind.i64.wrap (IntKind.i64.wrap ((p : Int) + IntKind.i64.wrap (2 * (if 0 > IntKind.i64.wrap (T + 9) then 0 else IntKind.i64.wrap (T + 9)))) + 64) = ((p + 2 * s + 64 : Nat) : Int) := by rw [hs1, wrap3 hp2 hs2]
   have hw8 : IntKind.i64.wrap (IntKind.i64.wrap (IntKind.i64.wrap ((p : Int) + IntKind.i64.wrap (2 * (if 0 > IntKind.i64.wrap (T + 9) then 0 else IntKind.i64.wrap (T + 9)))) + 64) + 8) = ((p + 2 * s + 64 + 8 : Nat) : Int) := by rw [hw, i64_id (by omega) (by omega)]; rfl
   have hns : IntKind.i64.wrap (0 - (if 0 > IntKind.i64.wrap (T + 9) then 0 else IntKind.i64.wrap (T + 9))) = -(s : Int) := by rw [hs1, i64_id (by omega) (by omega)]; omega
   intro _ g6 W6 r6 S6
   refine wp_seq (rk Rm71_11 [] Fm71_10 Bm71_2 S6 r6 ?_)
   intro _ g7 W7 r7 S7
   refine wp_seq (rk Rm71_14 [.st 2 0 (i6 9)] Fm71_12 Bm71_15 S7 r7 ?_)
   intro W8 g8 r8 _
   show Calls Tryz.prog 96 #[.agg #[.bool b0, .slice A0 n0 c0, .int .i64 x0], .int .i64 (IntKind.i64.wrap (0 - (if 0 > IntKind.i64.wrap (T + 9) then 0 else IntKind.i64.wrap (T + 9))))] W8 _
   rw [hns]
   refine (shift_q (K := 23) (-(s : Int)) (h.below r8.first) (by omega) (by omega) (by decide) (tb hT r8)).mono ?_
   rintro _ V3 ⟨v, rfl, h3, k3⟩
   obtain ⟨b3, A3, n3, c3, x3, rfl⟩ := h3.ex
   replace h3 := h3.lower r8.fs
   refine ⟨[.bool b3, .slice A3 n3 c3, .int .i64 x3], rfl, rfl, rfl, k3, ?_⟩
   intro W9 g9 r9 _
   show Calls Tryz.prog 84 #[.agg #[.bool b3, .slice A3 n3 c3, .int .i64 x3], .int .i64 (IntKind.i64.wrap ((IntKind.i64.wrap ((p : Int) + (IntKind.i64.wrap (2 * (if 0 > IntKind.i64.wrap (T + 9) then 0 else IntKind.i64.wrap (T + 9)))))) + 64)), .int .i64 0] W9 _
   rw [hw]
   refine (small_q (h3.lat (r9.at_ 2 _ rfl)).c (Rat.mul_nonneg ha (Rat.le_of_lt (Dv_pow_pos _))) hsm (by omega) (by omega) (by omega) (by decide) (tb hT r9)).mono ?_
   rintro _ V4 ⟨v, lo, hi, rfl, h4, hs4, k4⟩
   obtain ⟨b4, A4, n4, c4, x4, d4, B4, m4, e4, y4, rfl⟩ := h4.ex
   replace h4 := h4.lower r9.fs
   refine ⟨[.bool b4, .slice A4 n4 c4, .int .i64 x4, .bool d4, .slice B4 m4 e4, .int .i64 y4], rfl, rfl, rfl, k4, ?_⟩
   intro a10 g10 W10 r10 S10
   refine wp_seq ?_
   refine wp_seq (rk Rm71_17 [] Fm71_16 Bm71_15 S10 r10 ?_)
   intro a11 g11 W11 r11 S11
   refine wp_block ?_
   refine wp_loop_n (fun nn aa WW => ∃ (jj1 : List Value) (y1 z1 : Bool) (yA zA : Option Addr) (yn yc zn zc : Nat) (yx zx ii : Int) (i : Nat) (lo hi : Rat) (gg : Nat → Nat), nn = s - i ∧ BL w WW ∧ St w (Lm71_18 jj1) Bm71_19 [.bool b0, .slice A0 n0 c0, .int .i64 x0, .int .i64 (p : Int), .bool (decide (a = 0)), .int .i64 T, .bool b3, .slice A3 n3 c3, .int .i64 x3, .bool b4, .slice A4 n4 c4, .int .i64 x4, .bool d4, .slice B4 m4 e4, .int .i64 y4, .bool y1, .slice yA yn yc, .int .i64 yx, .bool z1, .slice zA zn zc, .int .i64 zx, .int .i64 ii] gg aa WW ∧ PI WW w.heap.size (.agg #[.bool y1, .slice yA yn yc, .int .i64 yx, .bool z1, .slice zA zn zc, .int .i64 zx]) lo hi 32768 ∧ Ab (p + 50 + 2 * (s - i)) (a * (2 : Rat) ^ ((i : Int) - (s : Int))) lo hi ∧ i ≤ s ∧ ii = (i : Int)) ⟨jv S11 Jm71_20, _, _, _, _, _, _, _, _, _, _, _, 0, _, _, _, rfl, r11.first, St.to S11 [0, 1, 2] (by kernel_rfl) (by kernel_rfl) (by decide) rfl, ((h4.lat (r11.at_ 3 _ rfl)).more (by omega)), (Ab.start hp hs2 hs4), Nat.zero_le _, rfl⟩ ?_
   rintro _ a12 W12 ⟨jj1, y1, z1, yA, zA, yn, yc, zn, zc, yx, zx, ii, i, lo, hi, g12, rfl, b12, S12, f1, f2, f3, f4⟩
   have r12 : Reach 64 w [W12] W12 := .of_below b12
   subst f4
   refine wp_seq (rk (Rm71_22 jj1) [] (Fm71_21 jj1) Bm71_19 S12 r12 ?_)
   intro a13 g13 W13 r13 S13
   refine wp_seq ?_
   refine wp_cond_split (t := decide ((i : Int) < (if 0 > IntKind.i64.wrap (T + 9) then 0 else IntKind.i64.wrap (T + 9)))) (S13.cnd (by kernel_rfl)) (fun q2 => ?_) (fun q2 => ?_)
   · have hi2 : i + 1 ≤ s := by have := of_decide_eq_true q2; rw [hs1] at this; omega
     refine wp_skip ?_
     refine wp_seq ?_
     refine wp_block ?_
     refine rk (Rm71_24 jj1) [.st 2 0 (i6 22)] (Fm71_23 jj1) Bm71_25 S13 r13 ?_
     intro W14 g14 r14 _
     show Calls Tryz.prog 82 #[.agg #[.bool y1, .slice yA yn yc, .int .i64 yx, .bool z1, .slice zA zn zc, .int .i64 zx], .agg #[.bool y1, .slice yA yn yc, .int .i64 yx, .bool z1, .slice zA zn zc, .int .i64 zx], .int .i64 (IntKind.i64.wrap ((IntKind.i64.wrap ((IntKind.i64.wrap ((p : Int) + (IntKind.i64.wrap (2 * (if 0 > IntKind.i64.wrap (T + 9) then 0 else IntKind.i64.wrap (T + 9)))))) + 64)) + 8))] W14 _
     rw [hw8]
     refine (times_q (p := p + 2 * s + 64 + 8) (f1.lat (r14.at_ 0 _ rfl)).c (f1.lat (r14.at_ 0 _ rfl)).c (by omega) (by omega) (by omega) (tb hT r14)).mono ?_
     rintro _ V5 ⟨v, l, u, rfl, hq, hf, sq1, sq2, k5⟩
     obtain ⟨b5, A5, n5, c5, x5, d5, B5, m5, e5, y5, rfl⟩ := hq.ex
     replace hq := hq.lower r14.fs
     have hab := ab_step hp ha ha2 hi2 f2 hf
     refine ⟨[.bool b5, .slice A5 n5 c5, .int .i64 x5, .bool d5, .slice B5 m5 e5, .int .i64 y5], rfl, rfl, rfl, k5, ?_⟩
     intro _ _ _ r15 S15
     refine rk (Rm71_27 jj1) [.mv (bo .add (vi 21) (li 1))] (Fm71_26 jj1) Bm71_25 S15 r15 ?_
     intro _ _ _ r16 S16
     exact ⟨_, (by omega), ⟨jv S16 Jm71_20, _, _, _, _, _, _, _, _, _, _, _, i + 1, _, _, _, rfl, r16.first, St.to S16 [0, 1, 2] (by kernel_rfl) (by kernel_rfl) (by decide) rfl, (fit_ab hp hp2 hs2 ha ha2 hi2 (hq.lat (r16.at_ 1 _ rfl)) sq1 sq2 hab), hab, hi2, (i64_id (by omega) (by omega))⟩⟩
   · have hend : i = s := by have := of_decide_eq_false q2; rw [hs1] at this; omega
     refine wp_exit (then_exit (then_exit (exit_in ?_)))
     refine wp_seq (rk (Rm71_29 jj1) [.st 1 0 (i6 15)] (Fm71_28 jj1) Bm71_30 S13 r13 ?_)
     intro a14 g14 W14 r14 S14
     exact rt S14 [.agg #[.bool y1, .slice yA yn yc, .int .i64 yx, .bool z1, .slice zA zn zc, .int .i64 zx]] (⟨_, _, _, rfl, (f1.lat (r14.at_ 0 _ rfl)), ab_end hend f2, r14.first⟩)
 · have h0 : a = 0 := of_decide_eq_true (by simpa using q1)
   obtain ⟨s, hs0⟩ : ∃ s : Nat, s = 0 := ⟨0, rfl⟩
   have hs2 : s ≤ 23 := by omega
   have hsm : 256 * (a * (2 : Rat) ^ (-(s : Int))) ≤ 1 := by rw [h0, Rat.zero_mul]; decide +kernel
   have hw : IntKind.i64.wrap (IntKind.i64.wrap ((p : Int) + 0) + 64) = ((p + 2 * s + 64 : Nat) : Int) := by rw [hs0, i64_id (x := (p : Int) + 0) (by omega) (by omega), i64_id (by omega) (by omega)]; omega
   have hw8 : IntKind.i64.wrap (IntKind.i64.wrap (IntKind.i64.wrap ((p : Int) + 0) + 64) + 8) = ((p + 2 * s + 64 + 8 : Nat) : Int) := by rw [hw, i64_id (by omega) (by omega)]; rfl
   have hns : IntKind.i64.wrap (0 - 0) = -(s : Int) := by rw [hs0]; decide
   refine wp_skip ?_
   refine wp_seq (rk Rm71_32 [] Fm71_31 Bm71_2 S4 r4 ?_)
   intro _ g5 W5 r5 S5
   refine wp_seq (rk Rm71_34 [.st 2 0 (i6 8)] Fm71_33 Bm71_35 S5 r5 ?_)
   intro W6 g6 r6 _
   show Calls Tryz.prog 96 #[.agg #[.bool b0, .slice A0 n0 c0, .int .i64 x0], .int .i64 (IntKind.i64.wrap (0 - 0))] W6 _
   rw [hns]
   refine (shift_q (K := 23) (-(s : Int)) (h.below r6.first) (by omega) (by omega) (by decide) (tb hT r6)).mono ?_
   rintro _ V6 ⟨v, rfl, h6, k6⟩
   obtain ⟨b6, A6, n6, c6, x6, rfl⟩ := h6.ex
   replace h6 := h6.lower r6.fs
   refine ⟨[.bool b6, .slice A6 n6 c6, .int .i64 x6], rfl, rfl, rfl, k6, ?_⟩
   intro W7 g7 r7 _
   show Calls Tryz.prog 84 #[.agg #[.bool b6, .slice A6 n6 c6, .int .i64 x6], .int .i64 (IntKind.i64.wrap ((IntKind.i64.wrap ((p : Int) + 0)) + 64)), .int .i64 0] W7 _
   rw [hw]
   refine (small_q (h6.lat (r7.at_ 1 _ rfl)).c (Rat.mul_nonneg ha (Rat.le_of_lt (Dv_pow_pos _))) hsm (by omega) (by omega) (by omega) (by decide) (tb hT r7)).mono ?_
   rintro _ V7 ⟨v, lo, hi, rfl, h7, hs7, k7⟩
   obtain ⟨b7, A7, n7, c7, x7, d7, B7, m7, e7, y7, rfl⟩ := h7.ex
   replace h7 := h7.lower r7.fs
   refine ⟨[.bool b7, .slice A7 n7 c7, .int .i64 x7, .bool d7, .slice B7 m7 e7, .int .i64 y7], rfl, rfl, rfl, k7, ?_⟩
   intro _ g8 W8 r8 S8
   refine wp_seq ?_
   refine wp_seq (rk Rm71_37 [] Fm71_36 Bm71_35 S8 r8 ?_)
   intro _ g9 W9 r9 S9
   refine wp_block ?_
   refine wp_loop_n (fun nn aa WW => ∃ (jj2 : List Value) (y1 z1 : Bool) (yA zA : Option Addr) (yn yc zn zc : Nat) (yx zx ii : Int) (i : Nat) (lo hi : Rat) (gg : Nat → Nat), nn = s - i ∧ BL w WW ∧ St w (Lm71_38 jj2) Bm71_39 [.bool b0, .slice A0 n0 c0, .int .i64 x0, .int .i64 (p : Int), .bool (decide (a = 0)), .bool b6, .slice A6 n6 c6, .int .i64 x6, .bool b7, .slice A7 n7 c7, .int .i64 x7, .bool d7, .slice B7 m7 e7, .int .i64 y7, .bool y1, .slice yA yn yc, .int .i64 yx, .bool z1, .slice zA zn zc, .int .i64 zx, .int .i64 ii] gg aa WW ∧ PI WW w.heap.size (.agg #[.bool y1, .slice yA yn yc, .int .i64 yx, .bool z1, .slice zA zn zc, .int .i64 zx]) lo hi 32768 ∧ Ab (p + 50 + 2 * (s - i)) (a * (2 : Rat) ^ ((i : Int) - (s : Int))) lo hi ∧ i ≤ s ∧ ii = (i : Int)) ⟨jv S9 Jm71_20, _, _, _, _, _, _, _, _, _, _, _, 0, _, _, _, rfl, r9.first, St.to S9 [0, 1, 2] (by kernel_rfl) (by kernel_rfl) (by decide) rfl, ((h7.lat (r9.at_ 2 _ rfl)).more (by omega)), (Ab.start hp hs2 hs7), Nat.zero_le _, rfl⟩ ?_
   rintro _ a10 W10 ⟨jj2, y1, z1, yA, zA, yn, yc, zn, zc, yx, zx, ii, i, lo, hi, g10, rfl, b10, S10, f1, f2, f3, f4⟩
   have r10 : Reach 64 w [W10] W10 := .of_below b10
   subst f4
   refine wp_seq (rk (Rm71_41 jj2) [] (Fm71_40 jj2) Bm71_39 S10 r10 ?_)
   intro a11 g11 W11 r11 S11
   refine wp_seq ?_
   refine wp_cond_split (t := decide ((i : Int) < 0)) (S11.cnd (by kernel_rfl)) (fun q3 => ?_) (fun q3 => ?_)
   · have hi2 : i + 1 ≤ s := by have := of_decide_eq_true q3; omega
     refine wp_skip ?_
     refine wp_seq ?_
     refine wp_block ?_
     refine rk (Rm71_43 jj2) [.st 2 0 (i6 21)] (Fm71_42 jj2) Bm71_44 S11 r11 ?_
     intro W12 g12 r12 _
     show Calls Tryz.prog 82 #[.agg #[.bool y1, .slice yA yn yc, .int .i64 yx, .bool z1, .slice zA zn zc, .int .i64 zx], .agg #[.bool y1, .slice yA yn yc, .int .i64 yx, .bool z1, .slice zA zn zc, .int .i64 zx], .int .i64 (IntKind.i64.wrap ((IntKind.i64.wrap ((IntKind.i64.wrap ((p : Int) + 0)) + 64)) + 8))] W12 _
     rw [hw8]
     refine (times_q (p := p + 2 * s + 64 + 8) (f1.lat (r12.at_ 0 _ rfl)).c (f1.lat (r12.at_ 0 _ rfl)).c (by omega) (by omega) (by omega) (tb hT r12)).mono ?_
     rintro _ V8 ⟨v, l, u, rfl, hq, hf, sq1, sq2, k8⟩
     obtain ⟨b8, A8, n8, c8, x8, d8, B8, m8, e8, y8, rfl⟩ := hq.ex
     replace hq := hq.lower r12.fs
     have hab := ab_step hp ha ha2 hi2 f2 hf
     refine ⟨[.bool b8, .slice A8 n8 c8, .int .i64 x8, .bool d8, .slice B8 m8 e8, .int .i64 y8], rfl, rfl, rfl, k8, ?_⟩
     intro a13 g13 W13 r13 S13
     refine rk (Rm71_46 jj2) [.mv (bo .add (vi 20) (li 1))] (Fm71_45 jj2) Bm71_44 S13 r13 ?_
     intro a14 g14 W14 r14 S14
     exact ⟨_, (by omega), ⟨jv S14 Jm71_20, _, _, _, _, _, _, _, _, _, _, _, i + 1, _, _, _, rfl, r14.first, St.to S14 [0, 1, 2] (by kernel_rfl) (by kernel_rfl) (by decide) rfl, (fit_ab hp hp2 hs2 ha ha2 hi2 (hq.lat (r14.at_ 1 _ rfl)) sq1 sq2 hab), hab, hi2, (i64_id (by omega) (by omega))⟩⟩
   · have hend : i = s := by omega
     refine wp_exit (then_exit (then_exit (exit_in ?_)))
     refine wp_seq (rk (Rm71_48 jj2) [.st 1 0 (i6 14)] (Fm71_47 jj2) Bm71_49 S11 r11 ?_)
     intro a12 g12 W12 r12 S12
     exact rt S12 [.agg #[.bool y1, .slice yA yn yc, .int .i64 yx, .bool z1, .slice zA zn zc, .int .i64 zx]] (⟨_, _, _, rfl, (f1.lat (r12.at_ 0 _ rfl)), ab_end hend f2, r12.first⟩)
open Limb
def sg (u : List Nat) (j i : Nat) : Nat := nv ((u.drop j).take i)
theorem wd_drop (u : List Nat) (j i : Nat) : wd (u.drop j) i = wd u (j + i) := by unfold wd; rw [List.getElem?_drop]
theorem sg_zero (u : List Nat) (j : Nat) : sg u j 0 = 0 := by unfold sg; rw [List.take_zero]; rfl
theorem sg_succ (u : List Nat) (j i : Nat) : sg u j (i + 1) = sg u j i + 2 ^ (64 * i) * wd u (j + i) := by
 unfold sg; rw [nv_take_succ, wd_drop]
theorem sg_set {u : List Nat} {j i : Nat} (h : j + i < u.length) (x : Nat) : sg (u.set (j + i) x) j (i + 1) = sg u j i + 2 ^ (64 * i) * x := by
 unfold sg
 rw [List.drop_set, if_neg (by omega), Nat.add_sub_cancel_left, nv_take_set _ _ _ (by rw [List.length_drop]; omega)]
theorem sg_lt {u : List Nat} (h : Wf u) (j i : Nat) : sg u j i < 2 ^ (64 * i) := by
 unfold sg; exact nv_take_lt (fun x hx => h x (List.mem_of_mem_drop hx)) i
theorem wd_eq_of {u v : List Nat} {m : Nat} (h : u[m]? = v[m]?) : wd u m = wd v m := by unfold wd; rw [h]
theorem kn_sub {W G Dl Xp i cy ls x y lo hi s c1 t ls' : Nat} (h : W + G * Dl = Xp + 2 ^ (64 * i) * (cy + ls)) (hP : hi * 18446744073709551616 + lo = G * x) (hs : s + 18446744073709551616 * c1 = lo + cy + 0) (ht : t + s + ls = y + 18446744073709551616 * ls') :
 (W + 2 ^ (64 * i) * t) + G * (Dl + 2 ^ (64 * i) * x) = (Xp + 2 ^ (64 * i) * y) + 2 ^ (64 * (i + 1)) * (hi + c1 + ls') := by
 rw [pw]
 generalize 2 ^ (64 * i) = B at *
 have e1 : t + G * x + (cy + ls) = y + 2 ^ 64 * (hi + c1 + ls') := by omega
 have e2 : B * (t + G * x + (cy + ls)) = B * (y + 2 ^ 64 * (hi + c1 + ls')) := by rw [e1]
 rw [Nat.mul_add, Nat.mul_add, Nat.mul_add B y] at e2
 have e3 : G * (Dl + B * x) = G * Dl + B * (G * x) := by rw [Nat.mul_add, Nat.mul_left_comm]
 have e4 : 2 ^ 64 * B * (hi + c1 + ls') = B * (2 ^ 64 * (hi + c1 + ls')) := by rw [Nat.mul_comm (2 ^ 64) B, Nat.mul_assoc]
 rw [e3, e4]
 omega
theorem kn_top {W G D Xp n cy ls y t ls' : Nat} (h : W + G * D = Xp + 2 ^ (64 * n) * (cy + ls)) (ht : t + cy + ls = y + 18446744073709551616 * ls') :
 (W + 2 ^ (64 * n) * t) + G * D = (Xp + 2 ^ (64 * n) * y) + ls' * 2 ^ (64 * (n + 1)) := by
 rw [pw]
 generalize 2 ^ (64 * n) = B at *
 have e2 : B * (t + cy + ls) = B * (y + 18446744073709551616 * ls') := by rw [ht]
 rw [Nat.mul_add, Nat.mul_add, Nat.mul_add B y] at e2
 rw [Nat.mul_add] at h
 have e4 : ls' * (2 ^ 64 * B) = B * (18446744073709551616 * ls') := by rw [Nat.mul_left_comm, Nat.mul_comm ls', ← Nat.mul_assoc, Nat.mul_comm (2 ^ 64) B, Nat.mul_assoc]
 rw [e4]
 omega
theorem kn_mul {G x : Nat} (hG : G < 18446744073709551616) (hx : x < 18446744073709551616) : ∃ hi lo, hi = G * x / 18446744073709551616 ∧ lo = G * x % 18446744073709551616 ∧ hi * 18446744073709551616 + lo = G * x ∧ hi < 18446744073709551615 ∧ lo < 18446744073709551616 := by
 have h : G * x ≤ 18446744073709551615 * 18446744073709551615 := Nat.mul_le_mul (by omega) (by omega)
 generalize G * x = p at *
 exact ⟨_, _, rfl, rfl, by omega, by omega, by omega⟩
theorem kn_guess {X D n y0 : Nat} {u d : List Nat} {j : Nat} (hn : n = y0 + 2) (hX : X = sg u j (n + 1)) (hD : D = nv (d.take n)) (hu : Wf u) (hd : Wf d) :
 X = (wd u (j + n) * 18446744073709551616 + wd u (j + (n - 1))) * 2 ^ (64 * (n - 1)) + sg u j (n - 1) ∧ D = wd d (n - 1) * 2 ^ (64 * (n - 1)) + nv (d.take (n - 1)) ∧ nv (d.take (n - 1)) < 2 ^ (64 * (n - 1)) ∧ sg u j (n - 1) < 2 ^ (64 * (n - 1)) := by
 subst hn
 refine ⟨?_, ?_, nv_take_lt hd _, sg_lt hu _ _⟩
 · have e1 := sg_succ u j (y0 + 1 + 1)
   have e2 := sg_succ u j (y0 + 1)
   rw [pw (y0 + 1)] at e1
   rw [hX, show y0 + 2 + 1 = y0 + 1 + 1 + 1 by omega, e1, e2, show y0 + 2 - 1 = y0 + 1 by omega, show j + (y0 + 2) = j + (y0 + 1 + 1) by omega]
   generalize 2 ^ (64 * (y0 + 1)) = B
   generalize wd u (j + (y0 + 1 + 1)) = a
   generalize wd u (j + (y0 + 1)) = b
   rw [Nat.add_mul, Nat.mul_comm b B, Nat.mul_right_comm, Nat.mul_comm a, show (2 : Nat) ^ 64 = 18446744073709551616 from rfl]
   omega
 · rw [hD, show y0 + 2 = (y0 + 1) + 1 by omega, nv_take_succ, Nat.add_sub_cancel, Nat.mul_comm]; omega
theorem kn_first {X D n y0 G : Nat} {u d : List Nat} {j : Nat} (hn : n = y0 + 2) (hX : X = sg u j (n + 1)) (hD : D = nv (d.take n)) (hu : Wf u) (hd : Wf d) (h1 : wd u (j + n) < wd d (n - 1)) (hG : G = (wd u (j + n) * 18446744073709551616 + wd u (j + (n - 1))) / wd d (n - 1)) : X / D ≤ G ∧ G < 18446744073709551616 := by
 obtain ⟨e1, e2, e3, e4⟩ := kn_guess hn hX hD hu hd
 have hx := wd_lt hu (j + (n - 1))
 constructor
 · rw [hG]
   exact Knu.guess_top (Nat.div_mul_le_self X D) e2 e1 e4 (by omega)
 · rw [hG]
   refine (Nat.div_lt_iff_lt_mul (by omega)).2 ?_
   have : (wd u (j + n) + 1) * 18446744073709551616 ≤ wd d (n - 1) * 18446744073709551616 := Nat.mul_le_mul_right _ h1
   rw [Nat.mul_comm 18446744073709551616]
   omega
theorem kn_ac (a b M z : Nat) : a * (2 ^ 64 * M) + (z + M * b) = (a * 18446744073709551616 + b) * M + z := by
 have e1 : a * (2 ^ 64 * M) = a * 18446744073709551616 * M := by rw [Nat.mul_assoc]
 rw [e1, Nat.add_mul, Nat.mul_comm b M]
 omega
theorem kn_next {X D n y0 G low : Nat} {u d : List Nat} {j : Nat} (hn : n = y0 + 2) (hX : X = sg u j (n + 1)) (hD : D = nv (d.take n)) (hu : Wf u) (hd : Wf d) (hl : G * wd d (n - 1) + low = wd u (j + n) * 18446744073709551616 + wd u (j + (n - 1))) (h : low * 18446744073709551616 + wd u (j + (n - 2)) < G * wd d (n - 2)) : X / D < G := by
 obtain ⟨e1, e2, e3, e4⟩ := kn_guess hn hX hD hu hd
 subst hn
 have f1 := sg_succ u j y0
 have f2 := nv_take_succ d y0
 have g1 := sg_lt hu j y0
 have g2 := nv_take_lt hd y0
 rw [show y0 + 2 - 1 = y0 + 1 by omega] at *
 rw [show y0 + 2 - 2 = y0 by omega] at h
 rw [f1, pw] at e1
 rw [f2, pw] at e2
 refine Knu.guess_mid (q := X / D) (d := D) (r := X) (g := G) (D := wd d (y0 + 1) * 18446744073709551616 + wd d y0) (M := 2 ^ (64 * y0)) (X := (wd u (j + (y0 + 2)) * 18446744073709551616 + wd u (j + (y0 + 1))) * 18446744073709551616 + wd u (j + y0)) (r0 := sg u j y0) (d0 := nv (d.take y0)) (Nat.div_mul_le_self X D) ?_ ?_ g1 ?_
 · exact e2.trans (kn_ac (wd d (y0 + 1)) (wd d y0) (2 ^ (64 * y0)) (nv (d.take y0)))
 · exact e1.trans (kn_ac (wd u (j + (y0 + 2)) * 18446744073709551616 + wd u (j + (y0 + 1))) (wd u (j + y0)) (2 ^ (64 * y0)) (sg u j y0))
 · refine Classical.byContradiction fun hc => ?_
   have := (Knu.test_mid (B := 18446744073709551616) (g := G) (d1 := wd d (y0 + 1)) (d2 := wd d y0) (X := wd u (j + (y0 + 2)) * 18446744073709551616 + wd u (j + (y0 + 1))) (r3 := wd u (j + y0)) (low := low) (by omega)).2 (Nat.le_of_not_lt hc)
   omega
theorem kn_great {X D : Nat} (h : X < D * 18446744073709551616) : X / D ≤ 18446744073709551615 := by
 have hD : 0 < D := by
  rcases Nat.eq_zero_or_pos D with q | q
  · rw [q, Nat.zero_mul] at h; omega
  · exact q
 have := (Nat.div_lt_iff_lt_mul hD).2 (by rw [Nat.mul_comm]; exact h)
 omega
theorem put_gr {e base n c : Nat} {ok : Nat → Prop} {W : World} {g : Nat} {ys : List Nat} (h : kU.R e W base ok (.slice (some ⟨g, 0, none⟩) n c) ys) (k u : Nat) : W.grownBy (W.setCell ⟨g, k, none⟩ (.int .u64 (u : Int))) (some g) := (Kd.R_putg h (k : Int) u).2
theorem grown_drewN {w W : World} {row : Option Nat} (h : w.grownBy W row) (n : Nat) : w.grownBy (W.drewN n) row := ⟨h.os, h.tape, h.output, h.size, h.block⟩
theorem grown_refl (w : World) (row : Option Nat) : w.grownBy w row := ⟨rfl, rfl, rfl, Nat.le_refl _, fun _ _ _ => rfl⟩
theorem quiet_add2 {P : Program} {f : FuncId} {args : Array Value} {w : World} {a n : Nat} {v : Value}
 (h : Calls P f args (w.drewN (a + n)) fun e w' => e = .returned v ∧ ∃ m, w' = (w.drewN (a + n)).drewN m) :
 Calls P f args (w.drewN (a + n)) fun e w'' => e = .returned v ∧ ∃ m, w'' = w.drewN (a + m) :=
 h.mono fun _ _ ⟨he, m, hm⟩ => ⟨he, n + m, by rw [hm, World.drewN_drewN, Nat.add_assoc]⟩
theorem step_any {g N cap j n c' cd e base : Nat} {ok : Nat → Prop} {o dl : List Nat} {DA : Option Addr} {w : World} (hR : kU.R e w base ok (.slice (some ⟨g, 0, none⟩) N cap) o) (hN : o.length = N) (hW : Wf o) (hj : j + n + 1 ≤ N) (hNl : N ≤ 4294967296) (hc' : n + 1 ≤ c')
 (hd : ∀ W, w.grownBy W (some g) → kU.C W DA n dl) (hn : dl.length = n) (hcd : n ≤ cd) (wdl : Wf dl) (h2 : 2 ≤ n) (hX : sg o j (n + 1) < nv dl * 18446744073709551616) :
 Calls Tryz.prog 150 #[.slice (some ⟨g, j, none⟩) (n + 1) c', .slice DA n cd] w fun en w' => ∃ o', en = .returned (.int .u64 ((sg o j (n + 1) / nv dl : Nat) : Int)) ∧ kU.R e w' base ok (.slice (some ⟨g, 0, none⟩) N cap) o' ∧ o'.length = N ∧ Wf o' ∧ sg o' j (n + 1) = sg o j (n + 1) % nv dl ∧ (∀ m, m < j ∨ j + n < m → o'[m]? = o[m]?) ∧ w.grownBy w' (some g) := by
 obtain ⟨ad, x0, rfl, -, -⟩ := at_word (hd w (grown_refl w _)) hn 0 (by omega)
 clear x0
 have HD := yk (fun (W : World) (hW : w.grownBy W (some g)) (i : Nat) (hi : i < n) => (by
  obtain ⟨ad', x, he, hx, hc⟩ := at_word (hd W hW) hn i hi
  injection he with he
  subst he
  rw [wd_of hx]
  exact hc : W.cell? (ad.add i) = some (.int .u64 (wd dl i : Int))))
 obtain ⟨n1, hn1⟩ : ∃ n1, n1 = n - 1 := ⟨_, rfl⟩
 obtain ⟨n2, hn2⟩ : ∃ n2, n2 = n - 2 := ⟨_, rfl⟩
 have en1 : (n : Int) - 1 = (n1 : Int) := by omega
 have en2 : (n : Int) - 2 = (n2 : Int) := by omega
 have ln1 : n1 < n := by omega
 have ln2 : n2 < n := by omega
 obtain ⟨X, eX⟩ : ∃ X, X = sg o j (n + 1) := ⟨_, rfl⟩
 obtain ⟨D, eD⟩ : ∃ D, D = nv dl := ⟨_, rfl⟩
 rw [← eX, ← eD] at hX
 have HX := yk hX
 have EX := yk eX
 have ED := yk eD
 have ED2 := yk (show D = nv (dl.take n) by rw [eD, nv_take_all (by omega)])
 have HN := yk hN
 have HW := yk hW
 have WD := yk wdl
 have HDn := yk hn
 have N1 := yk hn1
 have N2 := yk hn2
 have HR := yk hR
 have HGR := yk (grown_refl w (some g))
 rw [← eX, ← eD]
 have hjn : j + n < N := by omega
 have hjn1 : j + n1 < N := by omega
 have hjn2 : j + n2 < N := by omega
 clear hR hd hN hW wdl hn hX eX eD hn1 hn2
 obtain ⟨t0, ht0⟩ : ∃ t, wd o (j + n) = t := ⟨_, rfl⟩
 obtain ⟨t1, ht1⟩ : ∃ t, wd o (j + n1) = t := ⟨_, rfl⟩
 obtain ⟨t2, ht2⟩ : ∃ t, wd o (j + n2) = t := ⟨_, rfl⟩
 obtain ⟨d1, hd1⟩ : ∃ t, wd dl n1 = t := ⟨_, rfl⟩
 obtain ⟨d2, hd2⟩ : ∃ t, wd dl n2 = t := ⟨_, rfl⟩
 have lt0 : t0 < 18446744073709551616 := by rw [← ht0]; exact wd_lt HW.out _
 have lt1 : t1 < 18446744073709551616 := by rw [← ht1]; exact wd_lt HW.out _
 have lt2 : t2 < 18446744073709551616 := by rw [← ht2]; exact wd_lt HW.out _
 have ld1 : d1 < 18446744073709551616 := by rw [← hd1]; exact wd_lt WD.out _
 have ld2 : d2 < 18446744073709551616 := by rw [← hd2]; exact wd_lt WD.out _
 obtain ⟨c0, -⟩ := put_word HR.out hjn
 obtain ⟨c1, -⟩ := put_word HR.out hjn1
 obtain ⟨c2, -⟩ := put_word HR.out hjn2
 have k1 := HD.out w HGR.out n1 ln1
 have k2 := HD.out w HGR.out n2 ln2
 rw [ht0] at c0
 rw [ht1] at c1
 rw [ht2] at c2
 rw [hd1] at k1
 rw [hd2] at k2
 have T0 := yk ht0
 have T1 := yk ht1
 have T2 := yk ht2
 have D1 := yk hd1
 have D2 := yk hd2
 clear ht0 ht1 ht2 hd1 hd2
 go_enter Tryz.func150, Tryz.ntmps150
 go_upto_region 3 with (fail)
 rename_i K1 h1 K2 h2
 have KEY : ∀ {G nw : Nat} {z7 z8 z9 z22 z23 z24 z25 z26 z27 z28 z29 z30 z31 z32 z33 z34 z35 z36 z37 z38 z39 z40 z41 z42 z43 z44 z45 z46 z47 z48 z49 z50 z51 z52 z53 z54 z55 z56 z57 z58 z59 z60 z61 z62 z63 z64 z65 z66 z67 z68 z69 z70 z71 z72 z73 z74 z75 z76 z77 z78 z79 z80 z81 z82 z83 z84 z85 z86 z87 z88 z89 z90 z91 z92 : Value}, G < 18446744073709551616 → Aside0 (X / D ≤ G) → K1 { tmps := #[.slice (some ⟨g, j, none⟩) (n + 1) c', .slice (some ad) n cd, undef, undef, .int .u64 0, .int .i64 (n : Int), .int .u64 (G : Int), z7, z8, z9, undef, undef, undef, undef, undef, undef, undef, undef, undef, undef, .slice (some ad) n cd, .int .i64 (n : Int), z22, z23, z24, z25, z26, z27, z28, z29, z30, z31, z32, z33, z34, z35, z36, z37, z38, z39, z40, z41, z42, z43, z44, z45, z46, z47, z48, z49, z50, z51, z52, z53, z54, z55, z56, z57, z58, z59, z60, z61, z62, z63, z64, z65, z66, z67, z68, z69, z70, z71, z72, z73, z74, z75, z76, z77, z78, z79, z80, z81, z82, z83, z84, z85, z86, z87, z88, z89, z90, z91, z92, undef, undef, undef, undef, undef, undef, undef, undef, undef, undef, undef, undef, undef, undef, undef, undef, undef, undef, undef, undef, undef, undef, undef, undef, undef, undef, undef, undef, undef, undef, undef, undef, undef, undef, undef, undef, undef, undef, undef, undef, undef, undef, undef, undef, undef, undef, undef, undef, undef, undef, undef, undef, undef, undef, undef, undef, undef, undef, undef, undef, undef, undef, undef, undef, undef, undef, undef, undef, undef, undef, undef, undef, undef, undef, undef, undef, undef, undef, undef, undef, undef, undef, undef, undef, undef, undef, undef, undef, undef, undef], defers := [] } (w.drewN nw) := by
  intro G nw z7 z8 z9 z22 z23 z24 z25 z26 z27 z28 z29 z30 z31 z32 z33 z34 z35 z36 z37 z38 z39 z40 z41 z42 z43 z44 z45 z46 z47 z48 z49 z50 z51 z52 z53 z54 z55 z56 z57 z58 z59 z60 z61 z62 z63 z64 z65 z66 z67 z68 z69 z70 z71 z72 z73 z74 z75 z76 z77 z78 z79 z80 z81 z82 z83 z84 z85 z86 z87 z88 z89 z90 z91 z92 lG IQ
  refine h1 _ _ ?_
  clear h1 h2 c0 c1 c2 k1 k2
  go_wp2
  go_loopw [10, 11, 95] (fun v10 v11 v95 wx => ∃ (i cy ls : Nat) (u : List Nat), v10 = .int .u64 ls ∧ v11 = .int .u64 cy ∧ v95 = .int .i64 i ∧ i ≤ n ∧ ls ≤ 1 ∧ cy < 18446744073709551616 ∧ Aside0 (w.grownBy wx (some g)) ∧ Aside0 (kU.R e wx base ok (.slice (some ⟨g, 0, none⟩) N cap) u) ∧ Aside0 (u.length = N ∧ Wf u ∧ (∀ m, m < j ∨ j + i ≤ m → u[m]? = o[m]?) ∧ sg u j i + G * nv (dl.take i) = sg o j i + 2 ^ (64 * i) * (cy + ls))) (fun _ _ v95 _ => n - (intOf v95).toNat)
  case atStart => exact ⟨0, 0, 0, o, rfl, rfl, rfl, Nat.zero_le _, by omega, by omega, ⟨grown_drewN HGR.out _⟩, ⟨Kd.R_drewN HR.out _⟩, ⟨HN.out, HW.out, fun _ _ => rfl, by simp [sg_zero, nv]⟩⟩
  case round =>
   obtain ⟨i, cy, ls, u, rfl, rfl, rfl, hi_, hls, hcy, HGA, HRA, HUA⟩ := hrel
   by_cases hlt_ : i < n
   · obtain ⟨x, hx⟩ : ∃ x, wd dl i = x := ⟨_, rfl⟩
     obtain ⟨y, hy⟩ : ∃ y, wd u (j + i) = y := ⟨_, rfl⟩
     have kx := HD.out wr HGA.out i hlt_
     rw [hx] at kx
     have hji : j + i < N := by omega
     obtain ⟨hw1, hw2, hput⟩ := put_word HRA.out hji
     rw [hy] at hw1
     have lx : x < 18446744073709551616 := by rw [← hx]; exact wd_lt WD.out _
     have ly : y < 18446744073709551616 := by rw [← hy]; exact wd_lt HUA.out.2.1 _
     have HY := yk hy
     have HXX := yk hx
     clear hx hy
     obtain ⟨hiA, loA, ehA, elA, epA, lhA, llA⟩ := kn_mul lG lx
     have QMA := yk (fun m => Tryz.bits_Mul64 G x lG lx m)
     rw [← ehA, ← elA] at QMA
     have EPA := yk epA
     clear ehA elA epA
     obtain ⟨s, c1, ls_, lc1, es, hadd⟩ : ∃ rs rc : Nat, rs < 18446744073709551616 ∧ rc ≤ 1 ∧ rs + 18446744073709551616 * rc = loA + cy + 0 ∧ ∀ W : World, (callFunc 134 #[.int .u64 (loA : Int), .int .u64 (cy : Int), .int .u64 0]).run Tryz.prog W = .ok (.value (.tuple #[.int .u64 (rs : Int), .int .u64 (rc : Int)])) W := ⟨(loA + cy + 0) % 18446744073709551616, (loA + cy + 0) / 18446744073709551616, by omega, by omega, by omega, fun W => Tryz.bits_Add64 loA cy 0 (by decide) W⟩
     obtain ⟨t, b, lt_, lb, et, hsub⟩ : ∃ rs rc : Nat, rs < 18446744073709551616 ∧ rc ≤ 1 ∧ rs + s + ls = y + 18446744073709551616 * rc ∧ ∀ W : World, (callFunc 135 #[.int .u64 (y : Int), .int .u64 (s : Int), .int .u64 (ls : Int)]).run Tryz.prog W = .ok (.value (.tuple #[.int .u64 (rs : Int), .int .u64 (rc : Int)])) W := ⟨(y + 18446744073709551616 - s - ls) % 18446744073709551616, if y < s + ls then 1 else 0, by omega, by split <;> omega, by split <;> omega, fun W => Tryz.bits_Sub64 y s ls hls W⟩
     obtain ⟨C, hC⟩ : ∃ C, C = hiA + c1 := ⟨_, rfl⟩
     have lC : C < 18446744073709551616 := by omega
     have eC : (hiA : Int) + (c1 : Int) = (C : Int) := by omega
     have HC := yk hC
     have HES := yk es
     have HET := yk et
     have HPUT := yk (hput t)
     have HGP := yk (put_gr HRA.out (j + i) t)
     have hst := run_store_word (P := Tryz.prog) (u := (t : Int)) hw1 hw2
     clear hC es et hput
     go_wp2_with (go_at_call 151; refine (QMA.out _).mono ?_; rintro e5 w5 ⟨rfl, rfl⟩)
     go_roundw
     case rel => exact ⟨i + 1, C, b, u.set (j + i) t, by go_num, by go_num, by go_num, by omega, lb, lC, ⟨HGA.out.trans HGP.out⟩, HPUT, ⟨by simp [HUA.out.1], HUA.out.2.1.set lt_, fun m hm => by
      rw [List.getElem?_set_ne (by omega)]; exact HUA.out.2.2.1 m (by omega), by
      have ey : wd o (j + i) = y := by rw [← HY.out]; exact (wd_eq_of (HUA.out.2.2.1 _ (by omega))).symm
      rw [sg_set (by rw [HUA.out.1]; exact hji), nv_take_succ, sg_succ, ey, HXX.out, HC.out]
      exact kn_sub HUA.out.2.2.2 EPA.out HES.out HET.out⟩⟩
     case measure => simp [intOf]; omega
   · obtain rfl : i = n := by omega
     obtain ⟨y, hy⟩ : ∃ y, wd u (j + i) = y := ⟨_, rfl⟩
     obtain ⟨hw1, hw2, hput⟩ := put_word HRA.out hjn
     rw [hy] at hw1
     have ly : y < 18446744073709551616 := by rw [← hy]; exact wd_lt HUA.out.2.1 _
     have HY := yk hy
     clear hy
     obtain ⟨t, b, lt_, lb, et, hsub⟩ : ∃ rs rc : Nat, rs < 18446744073709551616 ∧ rc ≤ 1 ∧ rs + cy + ls = y + 18446744073709551616 * rc ∧ ∀ W : World, (callFunc 135 #[.int .u64 (y : Int), .int .u64 (cy : Int), .int .u64 (ls : Int)]).run Tryz.prog W = .ok (.value (.tuple #[.int .u64 (rs : Int), .int .u64 (rc : Int)])) W := ⟨(y + 18446744073709551616 - cy - ls) % 18446744073709551616, if y < cy + ls then 1 else 0, by omega, by split <;> omega, by split <;> omega, fun W => Tryz.bits_Sub64 y cy ls hls W⟩
     have HET := yk et
     have HPUT := yk (hput t)
     have HGP := yk (put_gr HRA.out (j + i) t)
     have hst := run_store_word (P := Tryz.prog) (u := (t : Int)) hw1 hw2
     have HB := yk (show sg (u.set (j + i) t) j (i + 1) + G * D = X + b * 2 ^ (64 * (i + 1)) by
      have ey : wd o (j + i) = y := by rw [← HY.out]; exact (wd_eq_of (HUA.out.2.2.1 _ (by omega))).symm
      rw [sg_set (by rw [HUA.out.1]; exact hjn), EX.out, sg_succ o, ey]
      have h := HUA.out.2.2.2
      rw [← ED2.out] at h
      exact kn_top h HET.out)
     clear et hput
     go_wp2
     go_loopw [6, 10] (fun v6 v10 wx => ∃ (G ls : Nat) (u : List Nat), v6 = .int .u64 G ∧ v10 = .int .u64 ls ∧ ls ≤ 1 ∧ G < 18446744073709551616 ∧ Aside0 (w.grownBy wx (some g)) ∧ Aside0 (kU.R e wx base ok (.slice (some ⟨g, 0, none⟩) N cap) u) ∧ Aside0 (X / D ≤ G) ∧ Aside0 (u.length = N ∧ Wf u ∧ (∀ m, m < j ∨ j + i < m → u[m]? = o[m]?) ∧ sg u j (i + 1) + G * D = X + ls * 2 ^ (64 * (i + 1)))) (fun v6 _ _ => (intOf v6).toNat)
     case atStart => exact ⟨G, b, u.set (j + i) t, rfl, rfl, lb, lG, ⟨HGA.out.trans HGP.out⟩, HPUT, IQ, ⟨by simp [HUA.out.1], HUA.out.2.1.set lt_, fun m hm => by
      rw [List.getElem?_set_ne (by omega)]; exact HUA.out.2.2.1 m (by omega), HB.out⟩⟩
     case round =>
      obtain ⟨G, lB, uB, rfl, rfl, hlB, lG_, HGB, HRB, HQB, HUB⟩ := hrel
      have hDp : 0 < D := by
       rcases Nat.eq_zero_or_pos D with q | q
       · have := HX.out; rw [q] at this; omega
       · exact q
      obtain ⟨z0, z1⟩ := Knu.sub_all (W := 2 ^ (64 * (i + 1))) HUB.out.2.2.2 (sg_lt HUB.out.2.1 j (i + 1)) HQB.out rfl hDp hlB
      by_cases hl0 : lB = 0
      · subst hl0
        obtain ⟨z2, z3⟩ := z0 rfl
        have Z2 := yk z2
        have Z3 := yk z3
        clear z0 z1 z2 z3
        go_wp2
        go_ret
        exact ⟨uB, by rw [← Z2.out]; rfl, HRB.out, HUB.out.1, HUB.out.2.1, Z3.out, HUB.out.2.2.1, HGB.out⟩
      · obtain rfl : lB = 1 := by omega
        have z2 := z1 rfl
        obtain ⟨G', hG'⟩ : ∃ G', G' = G - 1 := ⟨_, rfl⟩
        have hG1 : 1 ≤ G := Nat.lt_of_le_of_lt (Nat.zero_le _) z2
        have eG' : (G : Int) - 1 = (G' : Int) := by omega
        have Z2 := yk (show X / D ≤ G' ∧ 0 < G from ⟨by rw [hG']; exact Nat.le_sub_one_of_lt z2, Nat.lt_of_le_of_lt (Nat.zero_le _) z2⟩)
        have HG' := yk hG'
        have lG' : G' < 18446744073709551616 := by omega
        have hmes : G' < G := by omega
        clear z0 z1 z2 hl0 hG'
        go_wp2
        go_loopw [17, 148] (fun v17 v148 wx => ∃ (k c : Nat) (uC : List Nat), v17 = .int .u64 c ∧ v148 = .int .i64 k ∧ k ≤ i ∧ c ≤ 1 ∧ Aside0 (w.grownBy wx (some g)) ∧ Aside0 (kU.R e wx base ok (.slice (some ⟨g, 0, none⟩) N cap) uC) ∧ Aside0 (uC.length = N ∧ Wf uC ∧ (∀ m, m < j ∨ j + k ≤ m → uC[m]? = uB[m]?) ∧ sg uC j k + 2 ^ (64 * k) * c = sg uB j k + nv (dl.take k))) (fun _ v148 _ => i - (intOf v148).toNat)
        case atStart => exact ⟨0, 0, uB, rfl, rfl, Nat.zero_le _, by omega, HGB, HRB, ⟨HUB.out.1, HUB.out.2.1, fun _ _ => rfl, by simp [sg_zero, nv]⟩⟩
        case round =>
         obtain ⟨k, c, uC, rfl, rfl, hk, hc, HGC, HRC, HUC⟩ := hrel
         by_cases hlt2 : k < i
         · obtain ⟨x, hx⟩ : ∃ x, wd dl k = x := ⟨_, rfl⟩
           obtain ⟨y2, hy2⟩ : ∃ y, wd uC (j + k) = y := ⟨_, rfl⟩
           have kx := HD.out wr HGC.out k hlt2
           rw [hx] at kx
           have hji : j + k < N := by omega
           obtain ⟨hw3, hw4, hput2⟩ := put_word HRC.out hji
           rw [hy2] at hw3
           have lx : x < 18446744073709551616 := by rw [← hx]; exact wd_lt WD.out _
           have ly2 : y2 < 18446744073709551616 := by rw [← hy2]; exact wd_lt HUC.out.2.1 _
           have HY2 := yk hy2
           have HXX := yk hx
           clear hx hy2
           obtain ⟨s2, c2_, ls2, lc2, es2, hadd2⟩ : ∃ rs rc : Nat, rs < 18446744073709551616 ∧ rc ≤ 1 ∧ rs + 18446744073709551616 * rc = y2 + x + c ∧ ∀ W : World, (callFunc 134 #[.int .u64 (y2 : Int), .int .u64 (x : Int), .int .u64 (c : Int)]).run Tryz.prog W = .ok (.value (.tuple #[.int .u64 (rs : Int), .int .u64 (rc : Int)])) W := ⟨(y2 + x + c) % 18446744073709551616, (y2 + x + c) / 18446744073709551616, by omega, by omega, by omega, fun W => Tryz.bits_Add64 y2 x c hc W⟩
           have HES := yk es2
           have HPUT2 := yk (hput2 s2)
           have HGP2 := yk (put_gr HRC.out (j + k) s2)
           have hst2 := run_store_word (P := Tryz.prog) (u := (s2 : Int)) hw3 hw4
           clear es2 hput2
           go_wp2
           go_roundw
           case rel => exact ⟨k + 1, c2_, uC.set (j + k) s2, by go_num, by go_num, by omega, lc2, ⟨HGC.out.trans HGP2.out⟩, HPUT2, ⟨by simp [HUC.out.1], HUC.out.2.1.set ls2, fun m hm => by
            rw [List.getElem?_set_ne (by omega)]; exact HUC.out.2.2.1 m (by omega), by
            have ey : wd uB (j + k) = y2 := by rw [← HY2.out]; exact (wd_eq_of (HUC.out.2.2.1 _ (by omega))).symm
            rw [sg_set (by rw [HUC.out.1]; exact hji), nv_take_succ, sg_succ, ey, HXX.out]
            exact add_step HUC.out.2.2.2 HES.out rfl⟩⟩
           case measure => simp [intOf]; omega
         · obtain rfl : k = i := by omega
           obtain ⟨y2, hy2⟩ : ∃ y, wd uC (j + k) = y := ⟨_, rfl⟩
           obtain ⟨hw3, hw4, hput2⟩ := put_word HRC.out hjn
           rw [hy2] at hw3
           have ly2 : y2 < 18446744073709551616 := by rw [← hy2]; exact wd_lt HUC.out.2.1 _
           have HY2 := yk hy2
           clear hy2
           obtain ⟨s2, c2_, ls2, lc2, es2, hadd2⟩ : ∃ rs rc : Nat, rs < 18446744073709551616 ∧ rc ≤ 1 ∧ rs + 18446744073709551616 * rc = y2 + 0 + c ∧ ∀ W : World, (callFunc 134 #[.int .u64 (y2 : Int), .int .u64 0, .int .u64 (c : Int)]).run Tryz.prog W = .ok (.value (.tuple #[.int .u64 (rs : Int), .int .u64 (rc : Int)])) W := ⟨(y2 + 0 + c) % 18446744073709551616, (y2 + 0 + c) / 18446744073709551616, by omega, by omega, by omega, fun W => Tryz.bits_Add64 y2 0 c hc W⟩
           have HES := yk es2
           have HPUT2 := yk (hput2 s2)
           have HGP2 := yk (put_gr HRC.out (j + k) s2)
           have hst2 := run_store_word (P := Tryz.prog) (u := (s2 : Int)) hw3 hw4
           obtain ⟨l, hl⟩ : ∃ l, l = 1 - c2_ := ⟨_, rfl⟩
           have el : 1 - (c2_ : Int) = (l : Int) := by omega
           have ll : l ≤ 1 := by omega
           have HL := yk (show sg (uC.set (j + k) s2) j (k + 1) + G' * D = X + l * 2 ^ (64 * (k + 1)) by
            have ey : wd uB (j + k) = y2 := by rw [← HY2.out]; exact (wd_eq_of (HUC.out.2.2.1 _ (by omega))).symm
            have hA : sg (uC.set (j + k) s2) j (k + 1) + c2_ * 2 ^ (64 * (k + 1)) = sg uB j (k + 1) + D := by
             have h := add_step HUC.out.2.2.2 HES.out (rfl : sg uC j k + 2 ^ (64 * k) * s2 = _)
             rw [sg_set (by rw [HUC.out.1]; exact hjn), sg_succ uB, ey, ED2.out, Nat.mul_comm c2_, h]; omega
            have hR0 := HUB.out.2.2.2
            rw [Nat.one_mul] at hR0
            obtain ⟨l', h1, h2⟩ := Knu.add_back hR0 Z2.out.2 hA lc2
            rw [HG'.out, h2]
            have : l' = l := by omega
            rw [this])
           clear es2 hput2 hl
           go_wp2
           go_roundw
           case rel => exact ⟨G', l, uC.set (j + k) s2, by go_num, by go_num, ll, lG', ⟨HGC.out.trans HGP2.out⟩, HPUT2, ⟨Z2.out.1⟩, ⟨by simp [HUC.out.1], HUC.out.2.1.set ls2, fun m hm => by
            rw [List.getElem?_set_ne (by omega), HUC.out.2.2.1 m (by omega)]; exact HUB.out.2.2.1 m (by omega), HL.out⟩⟩
           case measure => simp [intOf]; omega
 clear h1
 by_cases hlt : (t0 : Int) < (d1 : Int)
 · obtain ⟨G0, hG0⟩ : ∃ G0, G0 = (t0 * 18446744073709551616 + t1) / d1 := ⟨_, rfl⟩
   obtain ⟨L0, hL0⟩ : ∃ L0, L0 = (t0 * 18446744073709551616 + t1) % d1 := ⟨_, rfl⟩
   have QD := yk (fun m => div64_any t0 t1 d1 (by omega) ld1 lt1 m)
   rw [← hG0, ← hL0] at QD
   obtain ⟨iq, lG0⟩ := kn_first (G := G0) (n := n) (y0 := n2) (by have := N2.out; omega) EX.out ED2.out HW.out WD.out (by rw [← N1.out, T0.out, D1.out]; omega) (by rw [← N1.out, T0.out, T1.out, D1.out]; exact hG0)
   have IQ := yk iq
   have E0 := yk (show G0 * d1 + L0 = t0 * 18446744073709551616 + t1 by rw [hG0, hL0, Nat.mul_comm]; exact Nat.div_add_mod _ _)
   have lL1 : L0 < d1 := by rw [hL0]; exact Nat.mod_lt _ (by omega)
   have lL0 : L0 < 18446744073709551616 := by omega
   clear iq hG0 hL0
   go_quiet (fail)
   go_wp2
   go_quiet ((go_at_call 152; first | exact quiet_add2 (QD.out _) | exact Calls.quiet_of (QD.out _)))
   go_wp2
   go_loopw [6, 7] (fun v6 v7 wx => ∃ G low : Nat, v6 = .int .u64 G ∧ v7 = .int .u64 low ∧ G < 18446744073709551616 ∧ low < 18446744073709551616 ∧ Aside0 (∃ n, wx = w.drewN n) ∧ Aside0 (G * d1 + low = t0 * 18446744073709551616 + t1) ∧ Aside0 (X / D ≤ G)) (fun v6 _ _ => (intOf v6).toNat)
   case atStart => exact ⟨G0, L0, rfl, rfl, lG0, lL0, ⟨⟨_, World.drewN_drewN _ _ _⟩⟩, E0, IQ⟩
   case round =>
    obtain ⟨G, low, rfl, rfl, lG, llow, HWR, E1, IQ1⟩ := hrel
    obtain ⟨nw, rfl⟩ := HWR.out
    clear HWR
    obtain ⟨hiG, loG, ehG, elG, epG, lhG, llG⟩ := kn_mul lG ld2
    have QMG := yk (fun m => Tryz.bits_Mul64 G d2 lG ld2 m)
    rw [← ehG, ← elG] at QMG
    have EPG := yk epG
    clear ehG elG epG
    by_cases c1_ : (hiG : Int) < (low : Int)
    · go_wp2_with (go_at_call 151; refine (QMG.out _).mono ?_; rintro e5 w5 ⟨rfl, rfl⟩); exact KEY lG IQ1
    · have c1' : decide ((hiG : Int) < (low : Int)) = false := decide_eq_false c1_
      by_cases c2_ : hiG = low
      · subst c2_
        have c2' : ((hiG : Int) == (hiG : Int)) = true := by simp
        by_cases c3_ : (loG : Int) ≤ (t2 : Int)
        · go_wp2_with (go_at_call 151; refine (QMG.out _).mono ?_; rintro e5 w5 ⟨rfl, rfl⟩); exact KEY lG IQ1
        · have c3' : decide ((loG : Int) ≤ (t2 : Int)) = false := decide_eq_false c3_
          have hq := kn_next (n := n) (y0 := n2) (low := hiG) (by have := N2.out; omega) EX.out ED2.out HW.out WD.out (by rw [← N1.out, T0.out, T1.out, D1.out]; exact E1.out) (by rw [← N2.out, T2.out, D2.out, ← EPG.out]; omega)
          obtain ⟨G', hG'⟩ : ∃ G', G' = G - 1 := ⟨_, rfl⟩
          have hG1 : 1 ≤ G := Nat.lt_of_le_of_lt (Nat.zero_le _) hq
          have eG' : (G : Int) - 1 = (G' : Int) := by omega
          have Z2 := yk (show X / D ≤ G' ∧ 0 < G from ⟨by rw [hG']; exact Nat.le_sub_one_of_lt hq, Nat.lt_of_le_of_lt (Nat.zero_le _) hq⟩)
          have HG' := yk hG'
          have lG' : G' < 18446744073709551616 := by omega
          have hmes : G' < G := by omega
          clear hq hG'
          by_cases hO : (hiG : Int) + (d1 : Int) < 18446744073709551616
          · obtain ⟨S, hS⟩ : ∃ S, S = hiG + d1 := ⟨_, rfl⟩
            have eS : (hiG : Int) + (d1 : Int) = (S : Int) := by omega
            have lS : S < 18446744073709551616 := by omega
            have dS : decide ((S : Int) < (d1 : Int)) = false := decide_eq_false (by omega)
            have HS := yk (show G' * d1 + S = t0 * 18446744073709551616 + t1 by
             have h := E1.out
             obtain ⟨m, hm⟩ : ∃ m, G = m + 1 := ⟨G - 1, by omega⟩
             have h2 := HG'.out
             rw [hm, Nat.add_sub_cancel] at h2
             rw [hm, Nat.add_mul, Nat.one_mul] at h
             rw [h2]; omega)
            clear hS hO
            go_wp2_with (go_at_call 151; refine (QMG.out _).mono ?_; rintro e5 w5 ⟨rfl, rfl⟩)
            go_roundw
            case rel => exact ⟨G', S, by go_num, by go_num, lG', lS, ⟨⟨_, rfl⟩⟩, HS, ⟨Z2.out.1⟩⟩
            case measure => simp [intOf]; omega
          · obtain ⟨S, hS⟩ : ∃ S, S = hiG + d1 - 18446744073709551616 := ⟨_, rfl⟩
            have eS : IntKind.u64.wrap ((hiG : Int) + (d1 : Int)) = (S : Int) := by rw [u64_mod]; omega
            have dS : (S : Int) < (d1 : Int) := by omega
            have IQ' := yk Z2.out.1
            clear hS hO
            go_wp2_with (go_at_call 151; refine (QMG.out _).mono ?_; rintro e5 w5 ⟨rfl, rfl⟩); exact KEY lG' IQ'
      · have c2' : ((hiG : Int) == (low : Int)) = false := by simp; omega
        have hq := kn_next (n := n) (y0 := n2) (low := low) (by have := N2.out; omega) EX.out ED2.out HW.out WD.out (by rw [← N1.out, T0.out, T1.out, D1.out]; exact E1.out) (by rw [← N2.out, T2.out, D2.out, ← EPG.out]; omega)
        obtain ⟨G', hG'⟩ : ∃ G', G' = G - 1 := ⟨_, rfl⟩
        have hG1 : 1 ≤ G := Nat.lt_of_le_of_lt (Nat.zero_le _) hq
        have eG' : (G : Int) - 1 = (G' : Int) := by omega
        have Z2 := yk (show X / D ≤ G' ∧ 0 < G from ⟨by rw [hG']; exact Nat.le_sub_one_of_lt hq, Nat.lt_of_le_of_lt (Nat.zero_le _) hq⟩)
        have HG' := yk hG'
        have lG' : G' < 18446744073709551616 := by omega
        have hmes : G' < G := by omega
        clear hq hG'
        by_cases hO : (low : Int) + (d1 : Int) < 18446744073709551616
        · obtain ⟨S, hS⟩ : ∃ S, S = low + d1 := ⟨_, rfl⟩
          have eS : (low : Int) + (d1 : Int) = (S : Int) := by omega
          have lS : S < 18446744073709551616 := by omega
          have dS : decide ((S : Int) < (d1 : Int)) = false := decide_eq_false (by omega)
          have HS := yk (show G' * d1 + S = t0 * 18446744073709551616 + t1 by
           have h := E1.out
           obtain ⟨m, hm⟩ : ∃ m, G = m + 1 := ⟨G - 1, by omega⟩
           have h2 := HG'.out
           rw [hm, Nat.add_sub_cancel] at h2
           rw [hm, Nat.add_mul, Nat.one_mul] at h
           rw [h2]; omega)
          clear hS hO
          go_wp2_with (go_at_call 151; refine (QMG.out _).mono ?_; rintro e5 w5 ⟨rfl, rfl⟩)
          go_roundw
          case rel => exact ⟨G', S, by go_num, by go_num, lG', lS, ⟨⟨_, rfl⟩⟩, HS, ⟨Z2.out.1⟩⟩
          case measure => simp [intOf]; omega
        · obtain ⟨S, hS⟩ : ∃ S, S = low + d1 - 18446744073709551616 := ⟨_, rfl⟩
          have eS : IntKind.u64.wrap ((low : Int) + (d1 : Int)) = (S : Int) := by rw [u64_mod]; omega
          have dS : (S : Int) < (d1 : Int) := by omega
          have IQ' := yk Z2.out.1
          clear hS hO
          go_wp2_with (go_at_call 151; refine (QMG.out _).mono ?_; rintro e5 w5 ⟨rfl, rfl⟩); exact KEY lG' IQ'
 · have hge : decide ((t0 : Int) < (d1 : Int)) = false := decide_eq_false hlt
   have IQ := yk (kn_great HX.out)
   have lG0 : 18446744073709551615 < 18446744073709551616 := by decide
   go_quiet (fail)
   go_wp2
   exact KEY lG0 IQ
end Go.Proofs.YtkdicconchobfaaGreatDoor
