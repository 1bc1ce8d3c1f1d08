/- ExpcorePower returns true at every input, and leaves its arguments and all old memory as they were, where the table math/bits.deBruijn64tab holds at first what the program's text lays into it (the card ties that). -/
import Derived.Test.YtkdicconchobfaaGreatDoorP6
import Derived.Test.YtkdicconchobfaaGreatDoorRows
import Derived.Test.YtkdicconchobfaaGreatDoorTie
import Derived.Test.YtkdicconchobfaaGreatDoorCards
import Derived.WalkKit
import Derived.ProofKit
import Derived.LaidMore
import Derived.OpenShut
import Derived.Below
import Derived.Stop.Joined
import Derived.SevenTiedAt
import Derived.SizedLaws
namespace Go.Proofs.YtkdicconchobfaaGreatDoor.expcorePower
open Go.ChangeShapes Go.WideShapes Go.ChangeAt Go.RowKit Go.WideMaps Go.WideElems Go.Deep Limb
set_option linter.unusedVariables false

theorem own : ownKnob Tryz.prog.godebug = none := by kernel_rfl
theorem laidOut : laidOutB Tryz.prog = true := by kernel_rfl
theorem gTab : Tryz.prog.globalNamed "math/bits.deBruijn64tab" = some 0 := by kernel_rfl
theorem tTab : (Tryz.prog.globals[0]?).map (·.type) = some 131 := by kernel_rfl
theorem uTab : Tryz.prog.underlying 131 = some (.array 64 5) := by kernel_rfl
theorem laid_list : Rows.laid_math_bits_deBruijn64tab (H := Unit) = .agg (Lib.deBruijn64tab.map (fun n : Nat => .lit (.int .u8 (n : Int)))) := rfl

theorem door_met (os : Os) (args : Array Value) : laidMetH Tryz.prog Rows.expcorePowerRow.laid ((World.doorLaid Tryz.prog 400 os).forCall (fun _ _ => 0) ⟨#[], args, []⟩).memory :=
  laidMetH_of_parts3 (fuel := 8) (laidMet_of_run' 8 (by kernel_rfl) (by kernel_rfl)) (by kernel_rfl) (by kernel_rfl)

set_option maxRecDepth 100000 in
/-- What the condition gives the walk: the table's cells. -/
theorem of_laid {W : World} (h : laidMetH Tryz.prog Rows.expcorePowerRow.laid W) : TabAt 0 Lib.deBruijn64tab W := by
  rw [MakeChecks.laidMetH_plain _ _ _ (by kernel_rfl)] at h
  obtain ⟨ps, ⟨g0, t0, cs0, f0, p0, q0, hg0, ht0, hv0, hd0, _, _⟩, _⟩ := h
  obtain rfl := Option.some.inj (gTab.symm.trans hg0)
  obtain rfl := Option.some.inj (tTab.symm.trans ht0)
  obtain ⟨xs, m1, rfl, hx1, hlen, hn, hel⟩ := DataW.trod_array uTab hd0
  have c1 : Tryz.prog.cellsOf 5 = 1 := by kernel_rfl
  rw [c1] at hel
  simp only [Prod.mk.injEq] at hx1
  have hx2 := laid_list.symm.trans hx1.1
  injection hx2 with hx3
  intro j hj
  have hj64 : j < 64 := hj
  have h1 := hel j hj64
  have hxj : xs[j]? = some xs[j] := List.getElem?_eq_getElem (by omega)
  rw [hxj] at h1
  obtain ⟨k, e1, e2, _⟩ := DataW.trod_int Tryz.underlying5 h1
  have h2 : (Lib.deBruijn64tab.map (fun n : Nat => (DataW.lit (H := Unit) (.int .u8 (n : Int)))))[j]? = some (.lit (.int .u8 k)) := by
    rw [hx3, List.getElem?_map, hxj, Option.map_some, e2]
  obtain ⟨y, hy⟩ : ∃ y, Lib.deBruijn64tab[j]? = some y := ⟨_, List.getElem?_eq_getElem hj⟩
  rw [List.getElem?_map, hy, Option.map_some] at h2
  have h2 : (y : Int) = k := by simpa only [Option.some.injEq, DataW.lit.injEq, Lit.int.injEq, true_and] using h2
  rw [World.var?_cell hg0 hv0 j]
  have h3 : cs0.toList[j]? = some (.int .u8 k) := by
    rw [Nat.mul_one] at e1
    have h4 : (cs0.toList.drop j)[0]? = some (.int .u8 k) := by
      have h5 : ((cs0.toList.drop j).take 1)[0]? = some (.int .u8 k) := by rw [e1]; rfl
      rw [List.getElem?_take_of_lt (by decide)] at h5
      exact h5
    rw [List.getElem?_drop] at h4
    exact h4
  rw [← Array.getElem?_toList, h3, ← h2, List.getD_eq_getElem?_getD, hy]
  rfl

set_option maxHeartbeats 4000000 in
set_option maxRecDepth 100000 in
theorem lifted (os : Os) (started : os.Started) (H : Type) (enc : TypeId × Value → H) :
    ReturnsInHanded {} Tryz.checked os 7 .any (fun w args => (Rows.expcorePowerSpec.pre enc Tryz.prog Tryz.f7 [] false w args ∧ laidMetH Tryz.prog Rows.expcorePowerRow.laid w) ∧ sizedMet enc Tryz.prog Tryz.f7 (OpenSpec.ofChange Rows.expcorePowerSpec) false w args)
      (Rows.expcorePowerSpec.post enc Tryz.prog Tryz.f7 false true false false) := by
  refine returnsInHanded_of_change_and (C := Tryz.checked) (X := fun w _ => laidMetH Tryz.prog Rows.expcorePowerRow.laid w) (fun _ _ _ hh h => h.of_heap hh) own started (by kernel_rfl) Tryz.func7
    (ChangeSpec.witness_shaped (enc := enc) (C := Tryz.checked) (os := os) (X := fun w _ => laidMetH Tryz.prog Rows.expcorePowerRow.laid w) false (World.doorLaid Tryz.prog 400 os) #[.agg #[.bool false, .slice none 0 0, .int .i64 0], .agg #[.bool false, .slice none 0 0, .int .i64 0], .int .i64 0] 8 rfl (World.shaped_of_RefB (by kernel_rfl) (by kernel_rfl)) (by kernel_rfl) (by kernel_rfl) (by kernel_rfl) (door_met os _)) ?_
  intro W base args ds gs before hval0 hW _ hsz0 hL _
  have hval : ∀ (j : Nat) t v, Tryz.f7.params[j]? = some t → args[j]? = some v → Value.okWide Tryz.prog W .any base t v := hval0
  have hW' := hW
  obtain ⟨p, q, hA0, hV, rfl, hfz, hnd⟩ := hW
  have hA : DataW.TrodAll enc Tryz.prog W 0 (fun _ => true) true Tryz.f7.params.toList args.toList ds p := hA0
  rw [Tryz.params7] at hA hval
  obtain ⟨v0, vs0, d0, ds0, p0, q0, hargs, rfl, rfl, h0, r0⟩ := trodAll_cons hA
  obtain ⟨v1, vs1, d1, ds1, p1, q1, rfl, rfl, rfl, h1, r1⟩ := trodAll_cons r0
  obtain ⟨v2, vs2, d2, ds2, p2, q2, rfl, rfl, rfl, h2, r2⟩ := trodAll_cons r1
  obtain ⟨rfl, rfl, rfl⟩ := trodAll_nil r2
  obtain rfl : args = #[v0, v1, v2] := by cases args; simp_all
  obtain ⟨rfl, rfl⟩ := trodVars_none hV
  have k0 := h0
  have lt0 : ∀ x ∈ p0, x.block < W.heap.size := by obtain ⟨m, hm⟩ := k0; exact DataW.trod_lt m _ _ _ hm
  obtain ⟨cs0, rfl, -⟩ := okWide_struct Tryz.underlying25 (hval 0 25 v0 rfl rfl)
  obtain ⟨s0, A0, n0, c0, x0, l0, hcs0, e0, wf0, le0, C0, wx0, sz0⟩ := open_dyad (show DataW.trod _ _ _ _ _ _ h0.choose _ _ = _ from h0.choose_spec)
  obtain rfl : cs0 = #[.bool s0, .slice A0 n0 c0, .int .i64 x0] := by
    rw [show cs0 = cs0.toList.toArray from rfl]; exact congrArg List.toArray hcs0
  have ad0 : ADy W (.agg #[.bool s0, .slice A0 n0 c0, .int .i64 x0]) s0 (nv l0) x0 := ⟨_, _, _, rfl, _, _, _, _, rfl, C0, e0, le0, wf0, rfl⟩
  have k1 := h1
  have lt1 : ∀ x ∈ p1, x.block < W.heap.size := by obtain ⟨m, hm⟩ := k1; exact DataW.trod_lt m _ _ _ hm
  obtain ⟨cs1, rfl, -⟩ := okWide_struct Tryz.underlying25 (hval 1 25 v1 rfl rfl)
  obtain ⟨s1, A1, n1, c1, x1, l1, hcs1, e1, wf1, le1, C1, wx1, sz1⟩ := open_dyad (show DataW.trod _ _ _ _ _ _ h1.choose _ _ = _ from h1.choose_spec)
  obtain rfl : cs1 = #[.bool s1, .slice A1 n1 c1, .int .i64 x1] := by
    rw [show cs1 = cs1.toList.toArray from rfl]; exact congrArg List.toArray hcs1
  have ad1 : ADy W (.agg #[.bool s1, .slice A1 n1 c1, .int .i64 x1]) s1 (nv l1) x1 := ⟨_, _, _, rfl, _, _, _, _, rfl, C1, e1, le1, wf1, rfl⟩
  obtain ⟨n2, rfl, rfl, rfl, w2⟩ := open_int Tryz.underlying3 (hval 2 3 v2 rfl rfl) h2
  have hw2 : -9223372036854775808 ≤ n2 ∧ n2 ≤ 9223372036854775807 := by simpa [Lit.wf, IntKind.min, IntKind.max, IntKind.signed, IntKind.bits] using w2
  clear hA0 hval0
  refine (power_law ad0 ad1 (of_laid hL)).mono fun e W' ⟨he, bel⟩ => ?_
  subst he
  exact ⟨_, rfl, _, _, _, [], _, [], hW', trodAll_mk1 (shut_bool Tryz.underlying4 _), (trodAll_cons_mk (Below.trod laidOut (by kernel_rfl) (of_decide_eq_true (by kernel_rfl)) k0 bel lt0) (trodAll_cons_mk (Below.trod laidOut (by kernel_rfl) (of_decide_eq_true (by kernel_rfl)) k1 bel lt1) (trodAll_cons_mk (shut_int Tryz.underlying3 w2) trodAll_mk0))), rfl, bel.frame _, fun h => by cases h⟩

theorem said : Rows.ExpcorePowerSaid :=
  OpenClaim.holds_of_wide 7 Tryz.f7 rfl rfl rfl rfl rfl rfl rfl ⟨rfl, rfl, rfl, rfl, rfl⟩ rfl rfl rfl rfl rfl (by kernel_rfl) Tryz.func7 (by kernel_rfl)
    (of_decide_eq_true (by kernel_rfl)) (by unfold Func.isWrapper; first | (rw [if_pos (by decide +kernel)]; kernel_rfl) | (rw [if_neg (by decide +kernel)]; exact ⟨rfl, rfl⟩))
    (fun os started H enc _ => lifted os started H enc)

theorem holds : Rows.ExpcorePowerCardSaid :=
  Claim7.holds_tied_plain_at .later [] [.data] true (true, "9bc7ea6294b4791e834669294742add1819ff322a168e39e047785a090585a19") false
    said (fun _ h => by cases h) (by kernel_rfl) (fun _ h => by cases h) expcorePower_row_tie rfl ⟨rfl, rfl⟩ (by kernel_rfl) rfl
    (fun f fn hf hfn => by
      obtain rfl : f = 7 := Option.some.inj ((show Tryz.prog.funcNamed "ulp/ulplaw10.ExpcorePower" = some 7 by kernel_rfl).symm.trans hf) |>.symm
      obtain rfl : fn = Tryz.f7 := (Option.some.inj (Tryz.func7.symm.trans hfn)).symm
      exact ⟨by kernel_rfl, fun j t ht => by
        rw [Tryz.params7] at ht
        have h3 : t = 25 ∨ t = 3 := by
          rcases j with _ | _ | _ | j
          · first | exact (by simpa using ht.symm) | exact .inl (by simpa using ht.symm) | exact .inr (by simpa using ht.symm)
          · first | exact (by simpa using ht.symm) | exact .inl (by simpa using ht.symm) | exact .inr (by simpa using ht.symm)
          · first | exact (by simpa using ht.symm) | exact .inl (by simpa using ht.symm) | exact .inr (by simpa using ht.symm)
          · simp at ht
        rcases h3 with rfl | rfl
        · exact (show Tryz.prog.wantsStandIn 25 = false by kernel_rfl)
        · exact (show Tryz.prog.wantsStandIn 3 = false by kernel_rfl)⟩)
    (by kernel_rfl)
end Go.Proofs.YtkdicconchobfaaGreatDoor.expcorePower
