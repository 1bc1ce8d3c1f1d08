/- Part 5 of the library of this claim: what the program and the document compute, as contracts of their functions. -/
import Derived.Test.YtkdicconchobfaaDoorR4
import Derived.Test.YtkdicconchobfaaDoorRows
import Derived.WalkKit
import Derived.ProofKit
import Derived.Deep.Slices
set_option maxRecDepth 100000
set_option maxHeartbeats 8000000
namespace Go.Proofs.YtkdicconchobfaaDoor
open Go Go.ChangeShapes Go.WideShapes Go.ChangeAt Go.RowKit Go.Deep Go.Proofs.YtkdicconchobfaaDoorW.PrintWords Limb
set_option linter.unusedVariables false
theorem trod_word {H : Type} {enc : TypeId × Value → H} {P : Program} {w : World} {base : Nat} {spare : Nat → Bool} {held : Bool} {n : Nat} {t : TypeId} {v : Value} {x : DataW H × List MemPlace} (ht : P.underlying t = some (.int .u64)) (h : DataW.trod enc P w base spare held n t [v] = some x) : ∃ b : Nat, v = .int .u64 (b : Int) ∧ b < 18446744073709551616 := by
 cases n with
 | zero => simp [DataW.trod] at h
 | succ n =>
   cases v with
   | int k b =>
     simp only [DataW.trod, ht] at h
     split at h
     · rename_i hh
       obtain ⟨rfl, hw⟩ := hh
       have hw2 : 0 ≤ b ∧ b ≤ 18446744073709551615 := by simpa [Lit.wf, IntKind.min, IntKind.max, IntKind.signed, IntKind.bits] using hw
       exact ⟨b.toNat, by rw [Int.toNat_of_nonneg hw2.1], by omega⟩
     · cases h
   | _ => simp [DataW.trod, ht] at h
theorem open_words {H : Type} {enc : TypeId × Value → H} {P : Program} {w : World} {base : Nat} {spare : Nat → Bool} {held : Bool} {fuel : Nat} {t e : TypeId} {v : Value} {x : DataW H × List MemPlace}
 (ht : P.underlying t = some (.slice e)) (he : P.underlying e = some (.int .u64)) (hc : P.cellsOf e = 1) (hf : DataW.trod enc P w base spare held fuel t [v] = some x) :
 ∃ (A : Option Addr) (len cap : Nat) (l : List Nat), v = .slice A len cap ∧ l.length = len ∧ Wf l ∧ len ≤ cap ∧ kU.C w A len l ∧ (x.1 = .nil ∧ len = 0 ∨ ∃ el sp, x.1 = .slice el sp ∧ el.length = len) := by
 rcases open_slice1 ht hc hf with ⟨hcs, hx⟩ | ⟨a, len, cap, m, n, V, D, Pl, hcs, _, hl, hm, hmm, hx, hV⟩
 · injection hcs with hcs
   subst hcs
   exact ⟨none, 0, 0, [], rfl, rfl, (by intro y hy; cases hy), Nat.le_refl _, ⟨rfl, by omega, fun h => absurd h (by omega)⟩, .inl ⟨by rw [hx], rfl⟩⟩
 · injection hcs with hcs
   subst hcs
   have hle : len ≤ m := by rw [hmm]; split <;> omega
   have hval : ∀ i, ∃ b : Nat, i < len → V i = .int .u64 (b : Int) ∧ b < 18446744073709551616 := by
    intro i
    by_cases hi : i < len
    · obtain ⟨b, hb⟩ := trod_word he (hV i (by omega)).2
      exact ⟨b, fun _ => hb⟩
    · exact ⟨0, fun h => absurd h hi⟩
   obtain ⟨B, hB⟩ := Classical.axiomOfChoice hval
   refine ⟨some a, len, cap, (List.range len).map B, rfl, by simp, ?_, hl, ⟨by simp, by unfold maxLen at hm; omega, fun _ => ⟨a, rfl, fun j p hp => ?_⟩⟩, .inr ⟨_, _, by rw [hx], by simp⟩⟩
   · intro y hy
     simp at hy
     obtain ⟨i, hi, rfl⟩ := hy
     exact (hB i hi).2
   have hj : j < len := by have := (List.getElem?_eq_some_iff.1 hp).1; simpa using this
   have hp' : p = B j := by simp [hj] at hp; exact hp.symm
   refine ⟨[.int .u64 ((B j : Nat) : Int)], rfl, by rw [hp']; rfl, fun i u hu => ?_⟩
   match i, hu with
   | 0, hu =>
     simp at hu
     subst hu
     have := (hV j (by omega)).1
     rw [(hB j hj).1] at this
     simpa [kU, Kd.scalar] using this
theorem len3 {α : Type} {l : List α} (h : l.length = 3) : ∃ a b c, l = [a, b, c] := by
 match l, h with
 | [a, b, c], _ => exact ⟨a, b, c, rfl⟩
theorem open_dyad {H : Type} {enc : TypeId × Value → H} {w : World} {base : Nat} {spare : Nat → Bool} {held : Bool} {fuel : Nat} {cs : List Value} {x : DataW H × List MemPlace}
 (hf : DataW.trod enc Tryd.prog w base spare held fuel 25 cs = some x) :
 ∃ (s : Bool) (A : Option Addr) (len cap : Nat) (X : Int) (l : List Nat), cs = [.bool s, .slice A len cap, .int .i64 X] ∧ l.length = len ∧ Wf l ∧ len ≤ cap ∧ kU.C w A len l ∧ (-9223372036854775808 ≤ X ∧ X ≤ 9223372036854775807) ∧ ∃ d0 d1 d2, x.1 = .agg [d0, d1, d2] ∧ (d1 = .nil ∧ len = 0 ∨ ∃ el sp, d1 = .slice el sp ∧ el.length = len) := by
 obtain ⟨xs, n, _, rfl, hl, hlen, hg⟩ := DataW.trod_struct Tryd.underlying25 hf
 have hc3 : Tryd.prog.cellsOf 25 = 3 := by kernel_rfl
 have hb1 : Tryd.prog.cellsOf 4 = 1 := by kernel_rfl
 have hn1 : Tryd.prog.cellsOf 23 = 1 := by kernel_rfl
 have hi1 : Tryd.prog.cellsOf 3 = 1 := by kernel_rfl
 rw [hc3] at hl
 obtain ⟨c0, c1, c2, rfl⟩ := len3 hl
 obtain ⟨y0, y1, y2, rfl⟩ := len3 (l := xs) (hlen.trans rfl)
 have g0 : DataW.trod enc Tryd.prog w base spare held n 4 (List.take (Tryd.prog.cellsOf 4) (List.drop 0 [c0, c1, c2])) = some y0 := hg 0 _ rfl
 have g1 : DataW.trod enc Tryd.prog w base spare held n 23 (List.take (Tryd.prog.cellsOf 23) (List.drop 1 [c0, c1, c2])) = some y1 := hg 1 _ rfl
 have g2 : DataW.trod enc Tryd.prog w base spare held n 3 (List.take (Tryd.prog.cellsOf 3) (List.drop 2 [c0, c1, c2])) = some y2 := hg 2 _ rfl
 rw [hb1] at g0
 rw [hn1] at g1
 rw [hi1] at g2
 simp only [List.drop_zero, List.drop_succ_cons, List.take_succ_cons, List.take_zero] at g0 g1 g2
 obtain ⟨b, e0, _⟩ := DataW.trod_bool Tryd.underlying4 g0
 obtain ⟨A, len, cap, l, e1, k1, k2, k3, k4, k5⟩ := open_words Tryd.underlying23 Tryd.underlying46 (by kernel_rfl) g1
 obtain ⟨X, e2, _, wX⟩ := DataW.trod_int Tryd.underlying3 g2
 injection e0 with e0
 injection e2 with e2
 subst e0 e1 e2
 exact ⟨b, A, len, cap, X, l, rfl, k1, k2, k3, k4, by simpa [Lit.wf, IntKind.min, IntKind.max, IntKind.signed, IntKind.bits] using wX, y0.1, y1.1, y2.1, rfl, k5⟩
open Go Go.RowKit Go.Proofs.YtkdicconchobfaaDoorW.PrintWords Limb Exq
set_option linter.unusedSimpArgs false
theorem got_e {w : World} {b : Nat} {fits : Prop} {p : Int} {q : Rat} {v : Value} (h : Asked w b fits p q SpE v 0) :
 ∃ l u, PI w b v l u 1000001 ∧ FitQ l ∧ FitQ u ∧ l ≤ u ∧ NarQ p.toNat l u ∧ 0 < l ∧ ab q ≤ 16384 ∧ ∃ a c, Exs a c q ∧ l ≤ a ∧ c ≤ u := by
 rcases h with ⟨h1, _⟩ | ⟨hok, ⟨h1, _⟩ | ⟨hsm, l, u, l', u', hs, c1, c2, s1, s2, ⟨_, hpi, f1, f2, hle⟩ | ⟨h1, _⟩⟩⟩
 · cases h1
 · cases h1
 · have hp := hok.2
   obtain ⟨k1, k2⟩ := lawE.ok _ _ _ _ _ _ (show 8 ≤ p.toNat by omega) (by omega) hsm hs c1 c2
   have e : Enc l u q (ep (p.toNat + 49)) := hs
   have e0 := e.1.1
   have e1 := e.1.2.1
   have o1 := c1.le
   have o2 := c2.ge
   refine ⟨l', u', hpi, f1, f2, hle, k2, ?_, hsm, l, u, e.1, o1, o2⟩
   rcases k2 with ⟨h1, h2⟩ | ⟨h1, _⟩ | ⟨h1, _⟩
   · grind
   · exact h1
   · grind
 · cases h1
theorem le1_sgn {P : Nat} {q l u l' u' : Rat} (hP : 8 ≤ P) (h : SpL P q l u) (c1 : CutOf false l l' (ep (P + 8))) (c2 : CutOf true u u' (ep (P + 8))) : (0 < q → 0 < l') ∧ (q < 0 → u' < 0) ∧ (q = 0 → l' = 0 ∧ u' = 0) := by
 rcases h with ⟨rfl, rfl, rfl⟩ | ⟨hne, h⟩
 · exact ⟨fun h => absurd h Rat.lt_irrefl, fun h => absurd h Rat.lt_irrefl, fun _ => ⟨cut_zero c1, cut_zero c2⟩⟩
 · rcases le1_cut hP h hne c1 c2 with ⟨h1, h2⟩ | ⟨h1, h2⟩
   · exact ⟨fun _ => h2.1, fun h => by grind, fun h => absurd h hne⟩
   · exact ⟨fun h => by grind, fun _ => by have := h2.1; grind, fun h => absurd h hne⟩
theorem spL_ex {P : Nat} {q l u : Rat} (h : SpL P q l u) : ∃ a c, Exs a c q ∧ l ≤ a - 1 ∧ c - 1 ≤ u := by
 rcases h with ⟨rfl, rfl, rfl⟩ | ⟨_, h⟩
 · exact ⟨1, 1, ⟨by decide +kernel, Rat.le_refl, .inl ⟨Rat.le_refl, Ex.zero⟩⟩, by decide +kernel, by decide +kernel⟩
 · exact h.encl
theorem got_l {w : World} {b : Nat} {fits : Prop} {p : Int} {q : Rat} {v : Value} (h : Asked w b fits p q SpL v 0) :
 ∃ l u, PI w b v l u 1000001 ∧ FitQ l ∧ FitQ u ∧ l ≤ u ∧ NarQ p.toNat l u ∧ sgnQ l = sgnQ q ∧ ∃ a c, Exs a c q ∧ l ≤ a - 1 ∧ c - 1 ≤ u := by
 rcases h with ⟨h1, _⟩ | ⟨hok, ⟨h1, _⟩ | ⟨hsm, l, u, l', u', hs, c1, c2, s1, s2, ⟨_, hpi, f1, f2, hle⟩ | ⟨h1, _⟩⟩⟩
 · cases h1
 · cases h1
 · have hp := hok.2
   have h8 : 8 ≤ p.toNat := by omega
   obtain ⟨k1, k2⟩ := lawL.ok _ _ _ _ _ _ h8 (by omega) hsm hs c1 c2
   obtain ⟨a, c, e, e1, e2⟩ := spL_ex hs
   obtain ⟨t1, t2, t3⟩ := le1_sgn h8 hs c1 c2
   refine ⟨l', u', hpi, f1, f2, hle, k2, ?_, a, c, e, Rat.le_trans c1.le e1, Rat.le_trans e2 c2.ge⟩
   have s1 := sgnQ_cases l'; have s2 := sgnQ_cases q
   rcases s2 with ⟨z1, z2⟩ | ⟨z1, z2⟩ | ⟨z1, z2⟩
   · have := t2 z1; grind
   · have := t3 z1; grind
   · have := t1 z1; grind
 · cases h1
theorem why_e {w : World} {b : Nat} {fits : Prop} {p why : Int} {q : Rat} {v : Value} (h : Asked w b fits p q SpE v why) (hok : fits ∧ 8 ≤ p ∧ p ≤ 4096) : (why = 0 ∧ ab q ≤ 16384) ∨ (why = 3 ∧ 16384 < ab q) := by
 by_cases hq : ab q ≤ 16384
 · exact .inl ⟨(h.got hok hq lawE (fun h => by cases h)).1, hq⟩
 · rcases h with ⟨_, _, h1⟩ | ⟨_, ⟨h1, _⟩ | ⟨h1, _⟩⟩
   · exact absurd hok h1
   · exact .inr ⟨h1, Rat.not_le.1 hq⟩
   · exact absurd h1 hq
theorem why_l {w : World} {b : Nat} {fits : Prop} {p why : Int} {q : Rat} {v : Value} (h : Asked w b fits p q SpL v why) (hok : fits ∧ 8 ≤ p ∧ p ≤ 4096) : (why = 0 ∧ ab q ≤ 16384) ∨ (why = 3 ∧ (16384 < ab q ∨ (q ≠ 0 ∧ ¬ (2 : Rat) ^ (-16384 : Int) ≤ ab q))) := by
 by_cases hq : ab q ≤ 16384
 · by_cases hf : q = 0 ∨ (2 : Rat) ^ (-16384 : Int) ≤ ab q
   · exact .inl ⟨(h.got hok hq lawL (fun _ => hf)).1, hq⟩
   · have hf1 : q ≠ 0 := fun h => hf (.inl h)
     have hf2 : ¬ (2 : Rat) ^ (-16384 : Int) ≤ ab q := fun h => hf (.inr h)
     rcases h with ⟨_, _, h1⟩ | ⟨_, ⟨h1, _, h2⟩ | ⟨_, l, u, l', u', _, _, _, _, _, ⟨h1, _⟩ | ⟨h1, _⟩⟩⟩
     · exact absurd hok h1
     · exact absurd h2 (Rat.not_lt.2 hq)
     · exact .inl ⟨h1, hq⟩
     · exact .inr ⟨h1, .inr ⟨hf1, hf2⟩⟩
 · rcases h with ⟨_, _, h1⟩ | ⟨_, ⟨h1, _⟩ | ⟨h1, _⟩⟩
   · exact absurd hok h1
   · exact .inr ⟨h1, .inl (Rat.not_le.1 hq)⟩
   · exact absurd h1 hq
theorem why_same {w w' : World} {b b' : Nat} {fits : Prop} {p why why' : Int} {q : Rat} {v v' : Value} (h : Asked w b fits p q SpE v why) (h' : Asked w' b' fits p q SpL v' why') (hok : fits ∧ 8 ≤ p ∧ p ≤ 4096) : why = why' ∨ (q ≠ 0 ∧ ¬ (2 : Rat) ^ (-16384 : Int) ≤ ab q) := by
 rcases why_e h hok with ⟨h1, h2⟩ | ⟨h1, h2⟩
 · rcases why_l h' hok with ⟨k1, _⟩ | ⟨k1, k2 | k2⟩
   · exact .inl (h1.trans k1.symm)
   · exact absurd h2 (Rat.not_le.2 k2)
   · exact .inr k2
 · rcases why_l h' hok with ⟨k1, k2⟩ | ⟨k1, k2⟩
   · exact absurd h2 (Rat.not_lt.2 k2)
   · exact .inl (h1.trans k1.symm)
theorem len_an {v : Value} {m : Nat} {w : World} (h : AN w v m) (hm : bl m ≤ 4294967296) :
 Calls Tryd.prog 43 #[v] w fun e w' => e = .returned (.int .i64 (bl m : Int)) ∧ BL w w' := by
 obtain ⟨A, n, c, l, rfl, h2, rfl, h4, h5, h6⟩ := h
 have := len_all l A c w h2 h4 h5 (by rw [h6]; have := len_le (K := 67108864) hm; omega)
 rw [h6] at this
 exact this
theorem sgn_raw (s : Bool) (m : Nat) (x : Int) : sgnQ (Dv (sgn s m) x) = if m = 0 then 0 else if s = true then -1 else 1 := by
 rw [sgn_Dv]
 unfold sgnI sgn
 by_cases h : m = 0
 · subst h; cases s <;> rfl
 · rw [if_neg h]
   cases s
   · rw [if_neg (by simp; omega), if_neg (by simp), if_neg (by simp)]
   · rw [if_neg (by simp; omega), if_pos (by simp; omega), if_pos rfl]
theorem top_raw {s : Bool} {m : Nat} {x : Int} (h : Dv (sgn s m) x ≠ 0) : (2 : Rat) ^ (x + (bl m : Int) - 1) ≤ ab (Dv (sgn s m) x) ∧ ab (Dv (sgn s m) x) < (2 : Rat) ^ (x + (bl m : Int) - 1 + 1) := by
 have hm : m ≠ 0 := fun q => h (by rw [q, sgn_zero, Dv_zero])
 rw [ab_Dv, sgn_abs]
 have hb := bl_pos hm
 obtain ⟨k, hk⟩ : ∃ k, bl m = k + 1 := ⟨bl m - 1, by omega⟩
 have h1 := bl_le hm
 have h2 := bl_lt m
 rw [hk] at h1 h2 ⊢
 rw [show x + ((k + 1 : Nat) : Int) - 1 = x + (k : Int) by omega, show x + (k : Int) + 1 = x + ((k + 1 : Nat) : Int) by omega]
 rw [← Dv_one, ← Dv_one, ← Dv_shift, ← Dv_shift, Dv_le, Dv_lt]
 simp only [Int.one_mul]
 simp only [Nat.add_sub_cancel] at h1
 exact ⟨by exact_mod_cast h1, by exact_mod_cast h2⟩
def Fwb20_0 := [dg 0, U, U, U, U, U, U, U, U]
def Fwb20_1 := fs Fwb20_0 [(1, ps 0 0), (2, li 0)]
def Bwb20_2 := [bb 25 (d3 0)]
def Rwb20_3 : Rg := ⟨2, 3, 0, Fwb20_0, Bwb20_2, [pa 0 0, pv (li 0) 0], []⟩
def Fwb20_4 := fs Fwb20_1 [(3, vb 3), (4, dg 0), (5, vb 3)]
def Rwb20_5 : Rg := ⟨3, 3, 1, Fwb20_1, Bwb20_2, [pl (dg 0) 0 0 0, pc (vb 3) 0 17 [dg 0] 1, pv (vb 3) 1], [1]⟩
def Rwb20_6 : Rg := ⟨1, 4, 1, Fwb20_4, Bwb20_2, [pv (li 0) 0], []⟩
def Fwb20_7 := fs Fwb20_4 [(6, vb 0), (7, ps 0 0), (8, vb 0)]
def Rwb20_8 : Rg := ⟨3, 4, 1, Fwb20_4, Bwb20_2, [pv (ps 0 0) 0, pl (vb 0) 0 0 0, pv (vb 0) 0], []⟩
def Fwb20_9 := fs Fwb20_7 [(2, li (-1))]
def Rwb20_10 : Rg := ⟨1, 4, 1, Fwb20_7, Bwb20_2, [pv (li (-1)) 0], []⟩
def Fwb20_11 := fs Fwb20_7 [(2, li 1)]
def Rwb20_12 : Rg := ⟨1, 4, 1, Fwb20_7, Bwb20_2, [pv (li 1) 0], []⟩
theorem dsign_all {v : Value} {s : Bool} {m : Nat} {x : Int} {w : World} (h : ADy w v s m x) (hm : bl m ≤ 4294967296) :
 Calls Tryd.prog 20 #[v] w fun en w' => en = .returned (.int .i64 (sgnQ (Dv (sgn s m) x))) ∧ BL w w' := by
 obtain ⟨A0, n0, c0, rfl, h⟩ := h
 have h : ADy w (.agg #[.bool s, .slice A0 n0 c0, .int .i64 x]) s m x := ⟨_, _, _, rfl, h⟩
 refine fn_enter (u := 46) (fn := Tryd.f20) Tryd.func20 rfl Fwb20_0 [.bool s, .slice A0 n0 c0, .int .i64 x] (by kernel_rfl) rfl (fun a0 S0 r0 => ?_)
 refine wp_seq (rk Rwb20_3 [] Fwb20_1 Bwb20_2 S0 r0 ?_)
 intro _ _ _ r1 S1
 refine wp_seq ?_
 refine wp_block ?_
 refine wp_seq (rk Rwb20_5 [] Fwb20_4 Bwb20_2 S1 r1 ?_)
 intro _ _ r2 _
 refine (dzero_all (h.below r2.first) hm).mono ?_
 rintro _ V1 ⟨rfl, k1⟩
 refine ⟨[.bool (decide (m = 0))], rfl, rfl, rfl, k1, ?_⟩
 intro _ _ _ r3 S3
 refine wp_cond_split (t := (decide (m = 0))) (S3.cnd (by kernel_rfl)) (fun q1 => ?_) (fun q1 => ?_)
 · refine wp_seq (rk Rwb20_6 [] Fwb20_4 Bwb20_2 S3 r3 ?_)
   intro a4 g4 W4 r4 S4
   exact wp_ret (blk_ret (then_ret (ret_ok S4 [.int .i64 0] (by kernel_rfl) (⟨by rw [sgn_raw, if_pos (of_decide_eq_true q1)]; rfl, r4.first⟩))))
 · refine wp_seq (rk Rwb20_8 [] Fwb20_7 Bwb20_2 S3 r3 ?_)
   intro a4 g4 W4 r4 S4
   refine wp_cond_split (t := s) (S4.cnd (by kernel_rfl)) (fun q2 => ?_) (fun q2 => ?_)
   · refine wp_seq (rk Rwb20_10 [] Fwb20_9 Bwb20_2 S4 r4 ?_)
     intro a5 g5 W5 r5 S5
     exact wp_ret (blk_ret (then_ret (ret_ok S5 [.int .i64 (-1)] (by kernel_rfl) (⟨by rw [sgn_raw, if_neg (of_decide_eq_false q1), if_pos q2]; rfl, r5.first⟩))))
   · refine wp_skip ?_
     refine wp_seq (rk Rwb20_12 [] Fwb20_11 Bwb20_2 S4 r4 ?_)
     intro a5 g5 W5 r5 S5
     exact rt S5 [.int .i64 1] (⟨by rw [sgn_raw, if_neg (of_decide_eq_false q1), if_neg (by rw [q2]; decide)]; rfl, r5.first⟩)
def Fwb18_0 := [dg 0, U, U, U, U, U, U, U, U, U]
def Fwb18_1 := fs Fwb18_0 [(1, ps 0 0), (2, li 0)]
def Bwb18_2 := [bb 25 (d3 0)]
def Rwb18_3 : Rg := ⟨2, 3, 0, Fwb18_0, Bwb18_2, [pa 0 0, pv (li 0) 0], []⟩
def Fwb18_4 := fs Fwb18_1 [(2, bo .sub (bo .add (vi 2) (vi 3)) (li 1)), (3, ps 0 2), (4, vi 2), (5, ps 0 1), (6, vs 1), (7, vi 3), (8, bo .add (vi 2) (vi 3)), (9, bo .sub (bo .add (vi 2) (vi 3)) (li 1))]
def Rwb18_5 : Rg := ⟨8, 3, 1, Fwb18_1, Bwb18_2, [pv (ps 0 2) 0, pl (vi 2) 0 0 2, pv (ps 0 1) 0, pl (vs 1) 0 0 1, pc (vi 3) 0 43 [vs 1] 1, pv (bo .add (vi 2) (vi 3)) 1, pv (bo .sub (bo .add (vi 2) (vi 3)) (li 1)) 1, pv (bo .sub (bo .add (vi 2) (vi 3)) (li 1)) 1], [4]⟩
theorem dtop_all {v : Value} {s : Bool} {m : Nat} {x : Int} {w : World} (h : ADy w v s m x) (hm : bl m ≤ 4294967296) (h1 : -1099511627776 ≤ x) (h2 : x ≤ 1099511627776) :
 Calls Tryd.prog 18 #[v] w fun en w' => ∃ T : Int, en = .returned (.int .i64 T) ∧ (Dv (sgn s m) x ≠ 0 → (2 : Rat) ^ T ≤ ab (Dv (sgn s m) x) ∧ ab (Dv (sgn s m) x) < (2 : Rat) ^ (T + 1)) ∧ BL w w' := by
 obtain ⟨A0, n0, c0, rfl, h⟩ := h
 have h : ADy w (.agg #[.bool s, .slice A0 n0 c0, .int .i64 x]) s m x := ⟨_, _, _, rfl, h⟩
 refine fn_enter (u := 46) (fn := Tryd.f18) Tryd.func18 rfl Fwb18_0 [.bool s, .slice A0 n0 c0, .int .i64 x] (by kernel_rfl) rfl (fun a0 S0 r0 => ?_)
 refine wp_seq (rk Rwb18_3 [] Fwb18_1 Bwb18_2 S0 r0 ?_)
 intro _ _ _ r1 S1
 refine wp_seq (rk Rwb18_5 [] Fwb18_4 Bwb18_2 S1 r1 ?_)
 intro _ _ r2 _
 refine (len_an (h.below r2.first).n hm).mono ?_
 rintro _ V1 ⟨rfl, k1⟩
 refine ⟨[.int .i64 (bl m : Int)], rfl, rfl, rfl, k1, ?_⟩
 intro _ _ _ r3 S3
 exact rt S3 [.int .i64 (IntKind.i64.wrap ((IntKind.i64.wrap (x + (bl m : Int))) - 1))] (⟨_, rfl, fun h => by rw [i64_id (x := x + (bl m : Int)) (by omega) (by omega), i64_id (by omega) (by omega)]; exact top_raw h, r3.first⟩)
def Fwb45_0 := [dg 0, U, U, U, U, U, U, U, U, U, U]
def Fwb45_1 := fs Fwb45_0 [(1, ps 0 0), (2, ps 1 0)]
def Bwb45_2 := [bb 25 (d3 0), bb 25 o3]
def Rwb45_3 : Rg := ⟨2, 3, 0, Fwb45_0, Bwb45_2, [pa 0 0, pa 1 0], []⟩
def Fwb45_4 := fs Fwb45_1 [(3, ps 0 0), (4, vb 0), (5, f1 noF (vb 0)), (6, ps 0 1), (7, vs 1), (8, ps 0 2), (9, vi 2), (10, dg 3)]
def Rwb45_5 : Rg := ⟨8, 3, 2, Fwb45_1, Bwb45_2, [pv (ps 0 0) 0, pl (vb 0) 0 0 0, pv (f1 noF (vb 0)) 0, pv (ps 0 1) 0, pl (vs 1) 0 0 1, pv (ps 0 2) 0, pl (vi 2) 0 0 2, pc (dg 3) 0 22 [f1 noF (vb 0), vs 1, vi 2] 3], [7]⟩
def Bwb45_6 := [bb 25 (d3 0), bb 25 (d3 3)]
theorem dneg_all {v : Value} {s : Bool} {m : Nat} {x : Int} {w : World} (h : ADy w v s m x) (hm : bl m ≤ 4294967296) (h1 : -1099511627776 ≤ x) (h2 : x ≤ 1099511627776) :
 Calls Tryd.prog 45 #[v] w fun en w' => ∃ v', en = .returned v' ∧ PDy w' w.heap.size v' (sgn (!s) m) x ∧ BL w w' := by
 obtain ⟨A0, n0, c0, rfl, h⟩ := h
 have h : ADy w (.agg #[.bool s, .slice A0 n0 c0, .int .i64 x]) s m x := ⟨_, _, _, rfl, h⟩
 refine fn_enter (u := 46) (fn := Tryd.f45) Tryd.func45 rfl Fwb45_0 [.bool s, .slice A0 n0 c0, .int .i64 x] (by kernel_rfl) rfl (fun a0 S0 r0 => ?_)
 refine wp_seq (rk Rwb45_3 [] Fwb45_1 Bwb45_2 S0 r0 ?_)
 intro _ _ _ r1 S1
 refine wp_seq (rk Rwb45_5 [.st 1 0 (d3 3)] Fwb45_4 Bwb45_6 S1 r1 ?_)
 intro W2 _ r2 _
 show Calls Tryd.prog 22 #[.bool (!s), .slice A0 n0 c0, .int .i64 x] W2 _
 refine (dform_all (!s) x (h.below r2.first).n hm h1 h2).mono ?_
 rintro _ V1 ⟨v, rfl, h1, k1⟩
 obtain ⟨b1, A1, n1, c1, x1, rfl⟩ := h1.ex
 replace h1 := h1.lower r2.fs
 refine ⟨[.bool b1, .slice A1 n1 c1, .int .i64 x1], rfl, rfl, rfl, k1, ?_⟩
 intro _ _ _ r3 S3
 exact rt S3 [.agg #[.bool b1, .slice A1 n1 c1, .int .i64 x1]] (⟨_, rfl, (h1.lat (r3.at_ 0 _ rfl)), r3.first⟩)
theorem ADy.g {v : Value} {s : Bool} {m : Nat} {x : Int} {w : World} (h : ADy w v s m x) (hf : Fit m x = true) : GQ w v (Dv (sgn s m) x) 65536 := by
 obtain ⟨hbl, hx1, hx2⟩ := fit_bl hf
 have hB : Bd 65536 (sgn s m) x := bd_of hbl (by omega) (by omega)
 have hN : Dv (sgn (!s) m) x = -Dv (sgn s m) x := by rw [← Dv_neg]; cases s <;> simp [sgn]
 refine ⟨?_, fun W hW => dsign_all (h.below hW) (by omega), fun W hW => dtop_all (h.below hW) (by omega) (by omega) (by omega), fun W hW => (dneg_all (h.below hW) (by omega) (by omega) (by omega)).mono ?_, _, _, rfl, hB, fun W hW => done_all (h.below hW) (by omega) (by omega) (by omega)⟩
 · obtain ⟨A, n, c, rfl, _⟩ := h
   exact ⟨_, _, _, _, _, rfl⟩
 · rintro en w' ⟨v', rfl, h', hb⟩
   exact ⟨v', rfl, ⟨_, _, h', hN.symm, bd_of hbl (by omega) (by omega)⟩, hb⟩
theorem fit_i8 {p : Int} : (if decide (p ≥ 8) = true then decide (p ≤ 4096) else false) = decide (8 ≤ p ∧ p ≤ 4096) := by
 by_cases h : p ≥ 8
 · rw [if_pos (decide_eq_true h)]; by_cases h' : p ≤ 4096
   · rw [decide_eq_true h', decide_eq_true (p := 8 ≤ p ∧ p ≤ 4096) ⟨h, h'⟩]
   · rw [decide_eq_false h', decide_eq_false (p := 8 ≤ p ∧ p ≤ 4096) (fun q => h' q.2)]
 · rw [decide_eq_false h, decide_eq_false (p := 8 ≤ p ∧ p ≤ 4096) (fun q => h q.1)]; rfl
def Fwp5_0 := [vi 0, U, U, U, U, U, U, U, U]
def Fwp5_1 := fs Fwp5_0 [(2, lb false)]
def Rwp5_2 : Rg := ⟨1, 1, 0, Fwp5_0, [], [pv (lb false) 0], []⟩
def Fwp5_3 := fs Fwp5_1 [(2, pk (bo .geq (vi 0) (li 8)) (bo .leq (vi 0) (li 4096)) (lb false)), (3, vi 0), (4, bo .geq (vi 0) (li 8)), (5, bo .geq (vi 0) (li 8)), (6, gd true (bo .geq (vi 0) (li 8)) (vi 0)), (7, gd true (bo .geq (vi 0) (li 8)) (bo .leq (vi 0) (li 4096))), (8, pk (bo .geq (vi 0) (li 8)) (bo .leq (vi 0) (li 4096)) (lb false))]
def Rwp5_4 : Rg := ⟨7, 1, 0, Fwp5_1, [], [pv (vi 0) 0, pv (bo .geq (vi 0) (li 8)) 0, pv (bo .geq (vi 0) (li 8)) 0, ⟨vi 0, 0, [], .val, gd true (bo .geq (vi 0) (li 8)) (vi 0)⟩, ⟨bo .leq (vi 0) (li 4096), 0, [], .val, gd true (bo .geq (vi 0) (li 8)) (bo .leq (vi 0) (li 4096))⟩, ⟨pk (bo .geq (vi 0) (li 8)) (bo .leq (vi 0) (li 4096)) (lb false), 0, [], .pk, pk (bo .geq (vi 0) (li 8)) (bo .leq (vi 0) (li 4096)) (lb false)⟩, pv (pk (bo .geq (vi 0) (li 8)) (bo .leq (vi 0) (li 4096)) (lb false)) 0], []⟩
theorem fit_q (p : Int) (w : World) :
 Calls Tryd.prog 5 #[.int .i64 p] w fun en w' => en = .returned (.bool (decide (8 ≤ p ∧ p ≤ 4096))) ∧ BL w w' := by
 refine fn_enter (u := 46) (fn := Tryd.f5) Tryd.func5 rfl Fwp5_0 [.int .i64 p] (by kernel_rfl) rfl (fun a0 S0 r0 => ?_)
 refine wp_seq (rk Rwp5_2 [] Fwp5_1 [] S0 r0 ?_)
 intro _ _ _ r1 S1
 refine wp_seq (rk Rwp5_4 [] Fwp5_3 [] S1 r1 ?_)
 intro _ _ _ r2 S2
 exact rt S2 [.bool (if decide (p ≥ 8) then decide (p ≤ 4096) else false)] (⟨by rw [fit_i8]; rfl, r2.first⟩)
open Go Go.RowKit Go.Proofs.YtkdicconchobfaaDoorW.PrintWords Limb
theorem cgo {P : Program} {f : FuncId} {a l : Array Value} {W : World} {K : Ending → World → Prop} (h : a = l) (k : Calls P f l W K) : Calls P f a W K := h ▸ k
theorem yvk {v : Value} {b w : Bool} (h : v = .bool b) (c : yieldsV v = some w) : b = w := by rw [h] at c; exact yv c
theorem ynk {v : Value} {b w : Bool} (h : v = .bool b) (c : yieldsV v ≠ some w) : b = !w := by rw [h] at c; exact yn c
theorem ykn {v : Value} {w : Bool} (h : yieldsV v = none) (c : yieldsV v = some w) : False := by rw [h] at c; cases c
theorem ri_or4 {a b c d : Int} (h : (if (if (if (a != 0) = true then true else b != 0) = true then true else c != 0) = true then true else d != 0) = false) : a = 0 ∧ b = 0 ∧ c = 0 ∧ d = 0 := by
 by_cases h1 : a = 0
 · by_cases h2 : b = 0
   · by_cases h3 : c = 0
     · subst h1 h2 h3; exact ⟨rfl, rfl, rfl, by simpa using h⟩
     · subst h1 h2; simp [h3] at h
   · subst h1; simp [h2] at h
 · simp [h1] at h
theorem ri_go3 {p : Int} {r t : Bool} (h : (if (if (!decide (8 ≤ p ∧ p ≤ 4096)) = true then true else !r) = true then true else !t) = false) : r = true ∧ t = true ∧ 8 ≤ p ∧ p ≤ 4096 := by
 by_cases h1 : 8 ≤ p ∧ p ≤ 4096
 · rw [decide_eq_true h1] at h
   cases r
   · cases h
   · cases t
     · cases h
     · exact ⟨rfl, rfl, h1⟩
 · rw [decide_eq_false h1] at h; cases h
theorem cmp_three (a b : Rat) : (cmpQ a b = -1 ∧ a ≤ b) ∨ (cmpQ a b = 0 ∧ a ≤ b ∧ b ≤ a) ∨ (cmpQ a b = 1 ∧ b ≤ a) := by
 unfold cmpQ
 by_cases h : a < b
 · rw [if_pos h]; exact .inl ⟨rfl, Rat.le_of_lt h⟩
 · rw [if_neg h]
   by_cases h' : b < a
   · rw [if_pos h']; exact .inr (.inr ⟨rfl, Rat.le_of_lt h'⟩)
   · rw [if_neg h']; exact .inr (.inl ⟨rfl, Rat.not_lt.1 h', Rat.not_lt.1 h⟩)
theorem cmp_two {a b : Rat} (h : a ≤ b) : cmpQ a b = -1 ∨ cmpQ a b = 0 := by
 rcases cmp_three a b with h1 | h1 | h1
 · exact .inl h1.1
 · exact .inr h1.1
 · have := Rat.le_antisymm h h1.2
   subst this
   exact .inr (by unfold cmpQ; rw [if_neg Rat.lt_irrefl, if_neg Rat.lt_irrefl])
theorem ri_e {l u l' u' a c a' c' q r : Rat} (ea : Exs a c q) (eb : Exs a' c' r) (hqr : q ≤ r) (h1 : l ≤ a) (h2 : c' ≤ u') : l ≤ u' := by
 have m := ea.rise eb hqr
 grind
theorem ri_l {l u l' u' a c a' c' q r : Rat} (ea : Exs a c q) (eb : Exs a' c' r) (hqr : q ≤ r) (h1 : l ≤ a - 1) (h2 : c' - 1 ≤ u') : l ≤ u' := by
 have m := ea.rise eb hqr
 grind
theorem ri_far {a b c d : Int} {r t : Bool} {q q' : Rat} (h : a = c ∨ (q ≠ 0 ∧ ¬ (2 : Rat) ^ (-16384 : Int) ≤ ab q)) (h' : b = d ∨ (q' ≠ 0 ∧ ¬ (2 : Rat) ^ (-16384 : Int) ≤ ab q')) (hne : (if (a == c) = true then b == d else false) = false) (hr : r = false → q ≠ 0 → (2 : Rat) ^ (-16384 : Int) ≤ ab q) (ht : t = false → q' ≠ 0 → (2 : Rat) ^ (-16384 : Int) ≤ ab q') (h0 : r = false) : t = true := by
 rcases h with h | ⟨h1, h2⟩
 · rcases h' with h' | ⟨h1, h2⟩
   · rw [h, h'] at hne; simp at hne
   · cases t
     · exact absurd (ht rfl h1) h2
     · rfl
 · exact absurd (hr h0 h1) h2
def Fwu3_0 := [dg 0, dg 3, vi 6, U, U, U, U, U, U, U, U, U, U, U, U, U, U, U, U, U, U, U, U, U, U, U, U, U, U, U, U, U, U, U, U, U, U, U, U, U, U, U, U, U, U, U, U, U, U, U, U, U, U, U, U, U, U, U, U, U, U, U, U, U, U, U, U, U, U, U, U, U, U, U, U, U, U, U, U, U, U, U, U, U, U, U, U, U, U, U, U, U, U, U, U, U, U, U, U, U, U, U, U, U, U, U, U, U, U, U, U, U, U, U, U, U, U, U, U, U, U, U, U, U, U, U]
def Fwu3_1 := fs Fwu3_0 [(3, ps 0 0), (4, ps 1 0), (6, lb false)]
def Bwu3_2 := [bb 25 (d3 0), bb 25 (d3 3)]
def Rwu3_3 : Rg := ⟨3, 7, 0, Fwu3_0, Bwu3_2, [pa 0 0, pa 1 0, pv (lb false) 0], []⟩
def Fwu3_4 := fs Fwu3_1 [(16, vb 7), (17, f1 noF (vb 7))]
def Rwu3_5 : Rg := ⟨2, 7, 2, Fwu3_1, Bwu3_2, [pc (vb 7) 0 4 [] 1, pv (f1 noF (vb 7)) 1], [0]⟩
def Fwu3_6 := fs Fwu3_4 [(18, vi 6), (19, vb 8), (20, f1 noF (vb 8)), (21, f1 noF (vb 8)), (22, gd false (f1 noF (vb 8)) (dg 0)), (23, gd false (f1 noF (vb 8)) (vb 9)), (24, gd false (f1 noF (vb 8)) (f1 noF (vb 9))), (25, pk (f1 noF (vb 8)) (lb true) (f1 noF (vb 9))), (26, pk (f1 noF (vb 8)) (lb true) (f1 noF (vb 9))), (27, gd false (pk (f1 noF (vb 8)) (lb true) (f1 noF (vb 9))) (dg 3)), (28, gd false (pk (f1 noF (vb 8)) (lb true) (f1 noF (vb 9))) (vb 10)), (29, gd false (pk (f1 noF (vb 8)) (lb true) (f1 noF (vb 9))) (f1 noF (vb 10))), (30, pk (pk (f1 noF (vb 8)) (lb true) (f1 noF (vb 9))) (lb true) (f1 noF (vb 10)))]
def Rwu3_7 : Rg := ⟨13, 8, 2, Fwu3_4, Bwu3_2, [pv (vi 6) 0, pc (vb 8) 0 5 [vi 6] 1, pv (f1 noF (vb 8)) 1, pv (f1 noF (vb 8)) 1, ⟨dg 0, 1, [], .ld 0 0, gd false (f1 noF (vb 8)) (dg 0)⟩, ⟨vb 9, 1, [], .cl 1 6 [dg 0] 1 [], gd false (f1 noF (vb 8)) (vb 9)⟩, ⟨f1 noF (vb 9), 2, [], .val, gd false (f1 noF (vb 8)) (f1 noF (vb 9))⟩, ⟨pk (f1 noF (vb 8)) (lb true) (f1 noF (vb 9)), 2, [], .pk, pk (f1 noF (vb 8)) (lb true) (f1 noF (vb 9))⟩, pv (pk (f1 noF (vb 8)) (lb true) (f1 noF (vb 9))) 2, ⟨dg 3, 2, [], .ld 1 0, gd false (pk (f1 noF (vb 8)) (lb true) (f1 noF (vb 9))) (dg 3)⟩, ⟨vb 10, 2, [], .cl 2 6 [dg 3] 1 [], gd false (pk (f1 noF (vb 8)) (lb true) (f1 noF (vb 9))) (vb 10)⟩, ⟨f1 noF (vb 10), 3, [], .val, gd false (pk (f1 noF (vb 8)) (lb true) (f1 noF (vb 9))) (f1 noF (vb 10))⟩, ⟨pk (pk (f1 noF (vb 8)) (lb true) (f1 noF (vb 9))) (lb true) (f1 noF (vb 10)), 3, [], .pk, pk (pk (f1 noF (vb 8)) (lb true) (f1 noF (vb 9))) (lb true) (f1 noF (vb 10))⟩], [1, 5, 10]⟩
def Fwu3_8 := fs Fwu3_6 [(6, lb true)]
def Rwu3_9 : Rg := ⟨1, 11, 2, Fwu3_6, Bwu3_2, [pv (lb true) 0], []⟩
def Fwu3_10 := fs Fwu3_6 [(7, ps 2 0), (8, vi 17), (31, tu [ig 11, vi 17]), (32, dg 0), (33, vi 6), (34, tu [ig 11, vi 17]), (35, ig 11), (36, vi 17)]
def Bwu3_11 := [bb 25 (d3 0), bb 25 (d3 3), bb 30 o6]
def Rwu3_12 : Rg := ⟨7, 11, 2, Fwu3_6, Bwu3_11, [pl (dg 0) 0 0 0, pv (vi 6) 0, pc (tu [ig 11, vi 17]) 0 7 [dg 0, vi 6] 7, pv (tu [ig 11, vi 17]) 1, pv (ig 11) 1, pv (vi 17) 1, pa 2 0], [2]⟩
def Bwu3_13 := [bb 25 (d3 0), bb 25 (d3 3), bb 30 (i6 11)]
def Fwu3_14 := fs Fwu3_10 [(9, ps 3 0), (10, vi 24), (37, tu [ig 18, vi 24]), (38, dg 3), (39, vi 6), (40, tu [ig 18, vi 24]), (41, ig 18), (42, vi 24)]
def Bwu3_15 := [bb 25 (d3 0), bb 25 (d3 3), bb 30 (i6 11), bb 30 o6]
def Rwu3_16 : Rg := ⟨7, 18, 3, Fwu3_10, Bwu3_15, [pl (dg 3) 0 1 0, pv (vi 6) 0, pc (tu [ig 18, vi 24]) 0 7 [dg 3, vi 6] 7, pv (tu [ig 18, vi 24]) 1, pv (ig 18) 1, pv (vi 24) 1, pa 3 0], [2]⟩
def Bwu3_17 := [bb 25 (d3 0), bb 25 (d3 3), bb 30 (i6 11), bb 30 (i6 18)]
def Fwu3_18 := fs Fwu3_14 [(11, ps 4 0), (12, vi 31), (43, tu [ig 25, vi 31]), (44, dg 0), (45, vi 6), (46, tu [ig 25, vi 31]), (47, ig 25), (48, vi 31)]
def Bwu3_19 := [bb 25 (d3 0), bb 25 (d3 3), bb 30 (i6 11), bb 30 (i6 18), bb 30 o6]
def Rwu3_20 : Rg := ⟨7, 25, 4, Fwu3_14, Bwu3_19, [pl (dg 0) 0 0 0, pv (vi 6) 0, pc (tu [ig 25, vi 31]) 0 8 [dg 0, vi 6] 7, pv (tu [ig 25, vi 31]) 1, pv (ig 25) 1, pv (vi 31) 1, pa 4 0], [2]⟩
def Bwu3_21 := [bb 25 (d3 0), bb 25 (d3 3), bb 30 (i6 11), bb 30 (i6 18), bb 30 (i6 25)]
def Fwu3_22 := fs Fwu3_18 [(13, ps 5 0), (14, vi 38), (49, tu [ig 32, vi 38]), (50, dg 3), (51, vi 6), (52, tu [ig 32, vi 38]), (53, ig 32), (54, vi 38)]
def Bwu3_23 := [bb 25 (d3 0), bb 25 (d3 3), bb 30 (i6 11), bb 30 (i6 18), bb 30 (i6 25), bb 30 o6]
def Rwu3_24 : Rg := ⟨7, 32, 5, Fwu3_18, Bwu3_23, [pl (dg 3) 0 1 0, pv (vi 6) 0, pc (tu [ig 32, vi 38]) 0 8 [dg 3, vi 6] 7, pv (tu [ig 32, vi 38]) 1, pv (ig 32) 1, pv (vi 38) 1, pa 5 0], [2]⟩
def Bwu3_25 := [bb 25 (d3 0), bb 25 (d3 3), bb 30 (i6 11), bb 30 (i6 18), bb 30 (i6 25), bb 30 (i6 32)]
def Fwu3_26 := fs Fwu3_22 [(55, vi 17), (56, bo .neq (vi 17) (li 0)), (57, bo .neq (vi 17) (li 0)), (58, gd false (bo .neq (vi 17) (li 0)) (vi 24)), (59, gd false (bo .neq (vi 17) (li 0)) (bo .neq (vi 24) (li 0))), (60, pk (bo .neq (vi 17) (li 0)) (lb true) (bo .neq (vi 24) (li 0))), (61, pk (bo .neq (vi 17) (li 0)) (lb true) (bo .neq (vi 24) (li 0))), (62, gd false (pk (bo .neq (vi 17) (li 0)) (lb true) (bo .neq (vi 24) (li 0))) (vi 31)), (63, gd false (pk (bo .neq (vi 17) (li 0)) (lb true) (bo .neq (vi 24) (li 0))) (bo .neq (vi 31) (li 0))), (64, pk (pk (bo .neq (vi 17) (li 0)) (lb true) (bo .neq (vi 24) (li 0))) (lb true) (bo .neq (vi 31) (li 0))), (65, pk (pk (bo .neq (vi 17) (li 0)) (lb true) (bo .neq (vi 24) (li 0))) (lb true) (bo .neq (vi 31) (li 0))), (66, gd false (pk (pk (bo .neq (vi 17) (li 0)) (lb true) (bo .neq (vi 24) (li 0))) (lb true) (bo .neq (vi 31) (li 0))) (vi 38)), (67, gd false (pk (pk (bo .neq (vi 17) (li 0)) (lb true) (bo .neq (vi 24) (li 0))) (lb true) (bo .neq (vi 31) (li 0))) (bo .neq (vi 38) (li 0))), (68, pk (pk (pk (bo .neq (vi 17) (li 0)) (lb true) (bo .neq (vi 24) (li 0))) (lb true) (bo .neq (vi 31) (li 0))) (lb true) (bo .neq (vi 38) (li 0)))]
def Rwu3_27 : Rg := ⟨14, 39, 6, Fwu3_22, Bwu3_25, [pv (vi 17) 0, pv (bo .neq (vi 17) (li 0)) 0, pv (bo .neq (vi 17) (li 0)) 0, ⟨vi 24, 0, [], .val, gd false (bo .neq (vi 17) (li 0)) (vi 24)⟩, ⟨bo .neq (vi 24) (li 0), 0, [], .val, gd false (bo .neq (vi 17) (li 0)) (bo .neq (vi 24) (li 0))⟩, ⟨pk (bo .neq (vi 17) (li 0)) (lb true) (bo .neq (vi 24) (li 0)), 0, [], .pk, pk (bo .neq (vi 17) (li 0)) (lb true) (bo .neq (vi 24) (li 0))⟩, pv (pk (bo .neq (vi 17) (li 0)) (lb true) (bo .neq (vi 24) (li 0))) 0, ⟨vi 31, 0, [], .val, gd false (pk (bo .neq (vi 17) (li 0)) (lb true) (bo .neq (vi 24) (li 0))) (vi 31)⟩, ⟨bo .neq (vi 31) (li 0), 0, [], .val, gd false (pk (bo .neq (vi 17) (li 0)) (lb true) (bo .neq (vi 24) (li 0))) (bo .neq (vi 31) (li 0))⟩, ⟨pk (pk (bo .neq (vi 17) (li 0)) (lb true) (bo .neq (vi 24) (li 0))) (lb true) (bo .neq (vi 31) (li 0)), 0, [], .pk, pk (pk (bo .neq (vi 17) (li 0)) (lb true) (bo .neq (vi 24) (li 0))) (lb true) (bo .neq (vi 31) (li 0))⟩, pv (pk (pk (bo .neq (vi 17) (li 0)) (lb true) (bo .neq (vi 24) (li 0))) (lb true) (bo .neq (vi 31) (li 0))) 0, ⟨vi 38, 0, [], .val, gd false (pk (pk (bo .neq (vi 17) (li 0)) (lb true) (bo .neq (vi 24) (li 0))) (lb true) (bo .neq (vi 31) (li 0))) (vi 38)⟩, ⟨bo .neq (vi 38) (li 0), 0, [], .val, gd false (pk (pk (bo .neq (vi 17) (li 0)) (lb true) (bo .neq (vi 24) (li 0))) (lb true) (bo .neq (vi 31) (li 0))) (bo .neq (vi 38) (li 0))⟩, ⟨pk (pk (pk (bo .neq (vi 17) (li 0)) (lb true) (bo .neq (vi 24) (li 0))) (lb true) (bo .neq (vi 31) (li 0))) (lb true) (bo .neq (vi 38) (li 0)), 0, [], .pk, pk (pk (pk (bo .neq (vi 17) (li 0)) (lb true) (bo .neq (vi 24) (li 0))) (lb true) (bo .neq (vi 31) (li 0))) (lb true) (bo .neq (vi 38) (li 0))⟩], []⟩
def Fwu3_28 := fs Fwu3_26 [(6, pk (pk (pk (bo .eql (vi 17) (vi 31)) (bo .eql (vi 24) (vi 38)) (lb false)) (lb true) (vb 39)) (lb true) (vb 40)), (69, vi 17), (70, vi 31), (71, bo .eql (vi 17) (vi 31)), (72, bo .eql (vi 17) (vi 31)), (73, gd true (bo .eql (vi 17) (vi 31)) (vi 24)), (74, gd true (bo .eql (vi 17) (vi 31)) (vi 38)), (75, gd true (bo .eql (vi 17) (vi 31)) (bo .eql (vi 24) (vi 38))), (76, pk (bo .eql (vi 17) (vi 31)) (bo .eql (vi 24) (vi 38)) (lb false)), (77, pk (bo .eql (vi 17) (vi 31)) (bo .eql (vi 24) (vi 38)) (lb false)), (78, gd false (pk (bo .eql (vi 17) (vi 31)) (bo .eql (vi 24) (vi 38)) (lb false)) (dg 0)), (79, gd false (pk (bo .eql (vi 17) (vi 31)) (bo .eql (vi 24) (vi 38)) (lb false)) (vb 39)), (80, pk (pk (bo .eql (vi 17) (vi 31)) (bo .eql (vi 24) (vi 38)) (lb false)) (lb true) (vb 39)), (81, pk (pk (bo .eql (vi 17) (vi 31)) (bo .eql (vi 24) (vi 38)) (lb false)) (lb true) (vb 39)), (82, gd false (pk (pk (bo .eql (vi 17) (vi 31)) (bo .eql (vi 24) (vi 38)) (lb false)) (lb true) (vb 39)) (dg 3)), (83, gd false (pk (pk (bo .eql (vi 17) (vi 31)) (bo .eql (vi 24) (vi 38)) (lb false)) (lb true) (vb 39)) (vb 40)), (84, pk (pk (pk (bo .eql (vi 17) (vi 31)) (bo .eql (vi 24) (vi 38)) (lb false)) (lb true) (vb 39)) (lb true) (vb 40))]
def Rwu3_29 : Rg := ⟨17, 39, 6, Fwu3_26, Bwu3_25, [pv (vi 17) 0, pv (vi 31) 0, pv (bo .eql (vi 17) (vi 31)) 0, pv (bo .eql (vi 17) (vi 31)) 0, ⟨vi 24, 0, [], .val, gd true (bo .eql (vi 17) (vi 31)) (vi 24)⟩, ⟨vi 38, 0, [], .val, gd true (bo .eql (vi 17) (vi 31)) (vi 38)⟩, ⟨bo .eql (vi 24) (vi 38), 0, [], .val, gd true (bo .eql (vi 17) (vi 31)) (bo .eql (vi 24) (vi 38))⟩, ⟨pk (bo .eql (vi 17) (vi 31)) (bo .eql (vi 24) (vi 38)) (lb false), 0, [], .pk, pk (bo .eql (vi 17) (vi 31)) (bo .eql (vi 24) (vi 38)) (lb false)⟩, pv (pk (bo .eql (vi 17) (vi 31)) (bo .eql (vi 24) (vi 38)) (lb false)) 0, ⟨dg 0, 0, [], .ld 0 0, gd false (pk (bo .eql (vi 17) (vi 31)) (bo .eql (vi 24) (vi 38)) (lb false)) (dg 0)⟩, ⟨vb 39, 0, [], .cl 0 9 [dg 0] 1 [], gd false (pk (bo .eql (vi 17) (vi 31)) (bo .eql (vi 24) (vi 38)) (lb false)) (vb 39)⟩, ⟨pk (pk (bo .eql (vi 17) (vi 31)) (bo .eql (vi 24) (vi 38)) (lb false)) (lb true) (vb 39), 1, [], .pk, pk (pk (bo .eql (vi 17) (vi 31)) (bo .eql (vi 24) (vi 38)) (lb false)) (lb true) (vb 39)⟩, pv (pk (pk (bo .eql (vi 17) (vi 31)) (bo .eql (vi 24) (vi 38)) (lb false)) (lb true) (vb 39)) 1, ⟨dg 3, 1, [], .ld 1 0, gd false (pk (pk (bo .eql (vi 17) (vi 31)) (bo .eql (vi 24) (vi 38)) (lb false)) (lb true) (vb 39)) (dg 3)⟩, ⟨vb 40, 1, [], .cl 1 9 [dg 3] 1 [], gd false (pk (pk (bo .eql (vi 17) (vi 31)) (bo .eql (vi 24) (vi 38)) (lb false)) (lb true) (vb 39)) (vb 40)⟩, ⟨pk (pk (pk (bo .eql (vi 17) (vi 31)) (bo .eql (vi 24) (vi 38)) (lb false)) (lb true) (vb 39)) (lb true) (vb 40), 2, [], .pk, pk (pk (pk (bo .eql (vi 17) (vi 31)) (bo .eql (vi 24) (vi 38)) (lb false)) (lb true) (vb 39)) (lb true) (vb 40)⟩, pv (pk (pk (pk (bo .eql (vi 17) (vi 31)) (bo .eql (vi 24) (vi 38)) (lb false)) (lb true) (vb 39)) (lb true) (vb 40)) 2], [10, 14]⟩
def Fwu3_30 := fs Fwu3_26 [(15, vi 39), (85, dg 0), (86, dg 3), (87, vi 39)]
def Rwu3_31 : Rg := ⟨4, 39, 6, Fwu3_26, Bwu3_25, [pl (dg 0) 0 0 0, pl (dg 3) 0 1 0, pc (vi 39) 0 10 [dg 0, dg 3] 1, pv (vi 39) 1], [2]⟩
def Fwu3_32 := fs Fwu3_30 [(6, pk (pk (bo .gtr (vi 39) (li 0)) (lb true) (pk (bo .leq (vi 40) (li 0)) (bo .leq (vi 41) (li 0)) (lb false))) (pk (bo .lss (vi 39) (li 0)) (lb true) (pk (bo .leq (vi 42) (li 0)) (bo .leq (vi 43) (li 0)) (lb false))) (lb false)), (88, vi 39), (89, bo .gtr (vi 39) (li 0)), (90, bo .gtr (vi 39) (li 0)), (91, gd false (bo .gtr (vi 39) (li 0)) (ps 2 0)), (92, gd false (bo .gtr (vi 39) (li 0)) (dg 11)), (93, gd false (bo .gtr (vi 39) (li 0)) (ps 3 3)), (94, gd false (bo .gtr (vi 39) (li 0)) (dg 21)), (95, gd false (bo .gtr (vi 39) (li 0)) (vi 40)), (96, gd false (bo .gtr (vi 39) (li 0)) (bo .leq (vi 40) (li 0))), (97, gd false (bo .gtr (vi 39) (li 0)) (bo .leq (vi 40) (li 0))), (98, gd true (gd false (bo .gtr (vi 39) (li 0)) (bo .leq (vi 40) (li 0))) (ps 4 0)), (99, gd true (gd false (bo .gtr (vi 39) (li 0)) (bo .leq (vi 40) (li 0))) (dg 25)), (100, gd true (gd false (bo .gtr (vi 39) (li 0)) (bo .leq (vi 40) (li 0))) (ps 5 3)), (101, gd true (gd false (bo .gtr (vi 39) (li 0)) (bo .leq (vi 40) (li 0))) (dg 35)), (102, gd true (gd false (bo .gtr (vi 39) (li 0)) (bo .leq (vi 40) (li 0))) (vi 41)), (103, gd true (gd false (bo .gtr (vi 39) (li 0)) (bo .leq (vi 40) (li 0))) (bo .leq (vi 41) (li 0))), (104, gd false (bo .gtr (vi 39) (li 0)) (pk (bo .leq (vi 40) (li 0)) (bo .leq (vi 41) (li 0)) (lb false))), (105, pk (bo .gtr (vi 39) (li 0)) (lb true) (pk (bo .leq (vi 40) (li 0)) (bo .leq (vi 41) (li 0)) (lb false))), (106, pk (bo .gtr (vi 39) (li 0)) (lb true) (pk (bo .leq (vi 40) (li 0)) (bo .leq (vi 41) (li 0)) (lb false))), (107, gd true (pk (bo .gtr (vi 39) (li 0)) (lb true) (pk (bo .leq (vi 40) (li 0)) (bo .leq (vi 41) (li 0)) (lb false))) (vi 39)), (108, gd true (pk (bo .gtr (vi 39) (li 0)) (lb true) (pk (bo .leq (vi 40) (li 0)) (bo .leq (vi 41) (li 0)) (lb false))) (bo .lss (vi 39) (li 0))), (109, gd true (pk (bo .gtr (vi 39) (li 0)) (lb true) (pk (bo .leq (vi 40) (li 0)) (bo .leq (vi 41) (li 0)) (lb false))) (bo .lss (vi 39) (li 0))), (110, gd false (gd true (pk (bo .gtr (vi 39) (li 0)) (lb true) (pk (bo .leq (vi 40) (li 0)) (bo .leq (vi 41) (li 0)) (lb false))) (bo .lss (vi 39) (li 0))) (ps 3 0)), (111, gd false (gd true (pk (bo .gtr (vi 39) (li 0)) (lb true) (pk (bo .leq (vi 40) (li 0)) (bo .leq (vi 41) (li 0)) (lb false))) (bo .lss (vi 39) (li 0))) (dg 18)), (112, gd false (gd true (pk (bo .gtr (vi 39) (li 0)) (lb true) (pk (bo .leq (vi 40) (li 0)) (bo .leq (vi 41) (li 0)) (lb false))) (bo .lss (vi 39) (li 0))) (ps 2 3)), (113, gd false (gd true (pk (bo .gtr (vi 39) (li 0)) (lb true) (pk (bo .leq (vi 40) (li 0)) (bo .leq (vi 41) (li 0)) (lb false))) (bo .lss (vi 39) (li 0))) (dg 14)), (114, gd false (gd true (pk (bo .gtr (vi 39) (li 0)) (lb true) (pk (bo .leq (vi 40) (li 0)) (bo .leq (vi 41) (li 0)) (lb false))) (bo .lss (vi 39) (li 0))) (vi 42)), (115, gd false (gd true (pk (bo .gtr (vi 39) (li 0)) (lb true) (pk (bo .leq (vi 40) (li 0)) (bo .leq (vi 41) (li 0)) (lb false))) (bo .lss (vi 39) (li 0))) (bo .leq (vi 42) (li 0))), (116, gd false (gd true (pk (bo .gtr (vi 39) (li 0)) (lb true) (pk (bo .leq (vi 40) (li 0)) (bo .leq (vi 41) (li 0)) (lb false))) (bo .lss (vi 39) (li 0))) (bo .leq (vi 42) (li 0))), (117, gd true (gd false (gd true (pk (bo .gtr (vi 39) (li 0)) (lb true) (pk (bo .leq (vi 40) (li 0)) (bo .leq (vi 41) (li 0)) (lb false))) (bo .lss (vi 39) (li 0))) (bo .leq (vi 42) (li 0))) (ps 5 0)), (118, gd true (gd false (gd true (pk (bo .gtr (vi 39) (li 0)) (lb true) (pk (bo .leq (vi 40) (li 0)) (bo .leq (vi 41) (li 0)) (lb false))) (bo .lss (vi 39) (li 0))) (bo .leq (vi 42) (li 0))) (dg 32)), (119, gd true (gd false (gd true (pk (bo .gtr (vi 39) (li 0)) (lb true) (pk (bo .leq (vi 40) (li 0)) (bo .leq (vi 41) (li 0)) (lb false))) (bo .lss (vi 39) (li 0))) (bo .leq (vi 42) (li 0))) (ps 4 3)), (120, gd true (gd false (gd true (pk (bo .gtr (vi 39) (li 0)) (lb true) (pk (bo .leq (vi 40) (li 0)) (bo .leq (vi 41) (li 0)) (lb false))) (bo .lss (vi 39) (li 0))) (bo .leq (vi 42) (li 0))) (dg 28)), (121, gd true (gd false (gd true (pk (bo .gtr (vi 39) (li 0)) (lb true) (pk (bo .leq (vi 40) (li 0)) (bo .leq (vi 41) (li 0)) (lb false))) (bo .lss (vi 39) (li 0))) (bo .leq (vi 42) (li 0))) (vi 43)), (122, gd true (gd false (gd true (pk (bo .gtr (vi 39) (li 0)) (lb true) (pk (bo .leq (vi 40) (li 0)) (bo .leq (vi 41) (li 0)) (lb false))) (bo .lss (vi 39) (li 0))) (bo .leq (vi 42) (li 0))) (bo .leq (vi 43) (li 0))), (123, gd false (gd true (pk (bo .gtr (vi 39) (li 0)) (lb true) (pk (bo .leq (vi 40) (li 0)) (bo .leq (vi 41) (li 0)) (lb false))) (bo .lss (vi 39) (li 0))) (pk (bo .leq (vi 42) (li 0)) (bo .leq (vi 43) (li 0)) (lb false))), (124, gd true (pk (bo .gtr (vi 39) (li 0)) (lb true) (pk (bo .leq (vi 40) (li 0)) (bo .leq (vi 41) (li 0)) (lb false))) (pk (bo .lss (vi 39) (li 0)) (lb true) (pk (bo .leq (vi 42) (li 0)) (bo .leq (vi 43) (li 0)) (lb false)))), (125, pk (pk (bo .gtr (vi 39) (li 0)) (lb true) (pk (bo .leq (vi 40) (li 0)) (bo .leq (vi 41) (li 0)) (lb false))) (pk (bo .lss (vi 39) (li 0)) (lb true) (pk (bo .leq (vi 42) (li 0)) (bo .leq (vi 43) (li 0)) (lb false))) (lb false))]
def Rwu3_33 : Rg := ⟨39, 40, 6, Fwu3_30, Bwu3_25, [pv (vi 39) 0, pv (bo .gtr (vi 39) (li 0)) 0, pv (bo .gtr (vi 39) (li 0)) 0, ⟨ps 2 0, 0, [], .val, gd false (bo .gtr (vi 39) (li 0)) (ps 2 0)⟩, ⟨dg 11, 0, [], .ld 2 0, gd false (bo .gtr (vi 39) (li 0)) (dg 11)⟩, ⟨ps 3 3, 0, [], .val, gd false (bo .gtr (vi 39) (li 0)) (ps 3 3)⟩, ⟨dg 21, 0, [], .ld 3 3, gd false (bo .gtr (vi 39) (li 0)) (dg 21)⟩, ⟨vi 40, 0, [], .cl 0 10 [dg 11, dg 21] 1 [], gd false (bo .gtr (vi 39) (li 0)) (vi 40)⟩, ⟨bo .leq (vi 40) (li 0), 1, [], .val, gd false (bo .gtr (vi 39) (li 0)) (bo .leq (vi 40) (li 0))⟩, ⟨bo .leq (vi 40) (li 0), 1, [], .val, gd false (bo .gtr (vi 39) (li 0)) (bo .leq (vi 40) (li 0))⟩, ⟨ps 4 0, 1, [], .val, gd true (gd false (bo .gtr (vi 39) (li 0)) (bo .leq (vi 40) (li 0))) (ps 4 0)⟩, ⟨dg 25, 1, [], .ld 4 0, gd true (gd false (bo .gtr (vi 39) (li 0)) (bo .leq (vi 40) (li 0))) (dg 25)⟩, ⟨ps 5 3, 1, [], .val, gd true (gd false (bo .gtr (vi 39) (li 0)) (bo .leq (vi 40) (li 0))) (ps 5 3)⟩, ⟨dg 35, 1, [], .ld 5 3, gd true (gd false (bo .gtr (vi 39) (li 0)) (bo .leq (vi 40) (li 0))) (dg 35)⟩, ⟨vi 41, 1, [], .cl 1 10 [dg 25, dg 35] 1 [], gd true (gd false (bo .gtr (vi 39) (li 0)) (bo .leq (vi 40) (li 0))) (vi 41)⟩, ⟨bo .leq (vi 41) (li 0), 2, [], .val, gd true (gd false (bo .gtr (vi 39) (li 0)) (bo .leq (vi 40) (li 0))) (bo .leq (vi 41) (li 0))⟩, ⟨pk (bo .leq (vi 40) (li 0)) (bo .leq (vi 41) (li 0)) (lb false), 2, [], .pk, gd false (bo .gtr (vi 39) (li 0)) (pk (bo .leq (vi 40) (li 0)) (bo .leq (vi 41) (li 0)) (lb false))⟩, ⟨pk (bo .gtr (vi 39) (li 0)) (lb true) (pk (bo .leq (vi 40) (li 0)) (bo .leq (vi 41) (li 0)) (lb false)), 2, [], .pk, pk (bo .gtr (vi 39) (li 0)) (lb true) (pk (bo .leq (vi 40) (li 0)) (bo .leq (vi 41) (li 0)) (lb false))⟩, pv (pk (bo .gtr (vi 39) (li 0)) (lb true) (pk (bo .leq (vi 40) (li 0)) (bo .leq (vi 41) (li 0)) (lb false))) 2, ⟨vi 39, 2, [], .val, gd true (pk (bo .gtr (vi 39) (li 0)) (lb true) (pk (bo .leq (vi 40) (li 0)) (bo .leq (vi 41) (li 0)) (lb false))) (vi 39)⟩, ⟨bo .lss (vi 39) (li 0), 2, [], .val, gd true (pk (bo .gtr (vi 39) (li 0)) (lb true) (pk (bo .leq (vi 40) (li 0)) (bo .leq (vi 41) (li 0)) (lb false))) (bo .lss (vi 39) (li 0))⟩, ⟨bo .lss (vi 39) (li 0), 2, [], .val, gd true (pk (bo .gtr (vi 39) (li 0)) (lb true) (pk (bo .leq (vi 40) (li 0)) (bo .leq (vi 41) (li 0)) (lb false))) (bo .lss (vi 39) (li 0))⟩, ⟨ps 3 0, 2, [], .val, gd false (gd true (pk (bo .gtr (vi 39) (li 0)) (lb true) (pk (bo .leq (vi 40) (li 0)) (bo .leq (vi 41) (li 0)) (lb false))) (bo .lss (vi 39) (li 0))) (ps 3 0)⟩, ⟨dg 18, 2, [], .ld 3 0, gd false (gd true (pk (bo .gtr (vi 39) (li 0)) (lb true) (pk (bo .leq (vi 40) (li 0)) (bo .leq (vi 41) (li 0)) (lb false))) (bo .lss (vi 39) (li 0))) (dg 18)⟩, ⟨ps 2 3, 2, [], .val, gd false (gd true (pk (bo .gtr (vi 39) (li 0)) (lb true) (pk (bo .leq (vi 40) (li 0)) (bo .leq (vi 41) (li 0)) (lb false))) (bo .lss (vi 39) (li 0))) (ps 2 3)⟩, ⟨dg 14, 2, [], .ld 2 3, gd false (gd true (pk (bo .gtr (vi 39) (li 0)) (lb true) (pk (bo .leq (vi 40) (li 0)) (bo .leq (vi 41) (li 0)) (lb false))) (bo .lss (vi 39) (li 0))) (dg 14)⟩, ⟨vi 42, 2, [], .cl 2 10 [dg 18, dg 14] 1 [], gd false (gd true (pk (bo .gtr (vi 39) (li 0)) (lb true) (pk (bo .leq (vi 40) (li 0)) (bo .leq (vi 41) (li 0)) (lb false))) (bo .lss (vi 39) (li 0))) (vi 42)⟩, ⟨bo .leq (vi 42) (li 0), 3, [], .val, gd false (gd true (pk (bo .gtr (vi 39) (li 0)) (lb true) (pk (bo .leq (vi 40) (li 0)) (bo .leq (vi 41) (li 0)) (lb false))) (bo .lss (vi 39) (li 0))) (bo .leq (vi 42) (li 0))⟩, ⟨bo .leq (vi 42) (li 0), 3, [], .val, gd false (gd true (pk (bo .gtr (vi 39) (li 0)) (lb true) (pk (bo .leq (vi 40) (li 0)) (bo .leq (vi 41) (li 0)) (lb false))) (bo .lss (vi 39) (li 0))) (bo .leq (vi 42) (li 0))⟩, ⟨ps 5 0, 3, [], .val, gd true (gd false (gd true (pk (bo .gtr (vi 39) (li 0)) (lb true) (pk (bo .leq (vi 40) (li 0)) (bo .leq (vi 41) (li 0)) (lb false))) (bo .lss (vi 39) (li 0))) (bo .leq (vi 42) (li 0))) (ps 5 0)⟩, ⟨dg 32, 3, [], .ld 5 0, gd true (gd false (gd true (pk (bo .gtr (vi 39) (li 0)) (lb true) (pk (bo .leq (vi 40) (li 0)) (bo .leq (vi 41) (li 0)) (lb false))) (bo .lss (vi 39) (li 0))) (bo .leq (vi 42) (li 0))) (dg 32)⟩, ⟨ps 4 3, 3, [], .val, gd true (gd false (gd true (pk (bo .gtr (vi 39) (li 0)) (lb true) (pk (bo .leq (vi 40) (li 0)) (bo .leq (vi 41) (li 0)) (lb false))) (bo .lss (vi 39) (li 0))) (bo .leq (vi 42) (li 0))) (ps 4 3)⟩, ⟨dg 28, 3, [], .ld 4 3, gd true (gd false (gd true (pk (bo .gtr (vi 39) (li 0)) (lb true) (pk (bo .leq (vi 40) (li 0)) (bo .leq (vi 41) (li 0)) (lb false))) (bo .lss (vi 39) (li 0))) (bo .leq (vi 42) (li 0))) (dg 28)⟩, ⟨vi 43, 3, [], .cl 3 10 [dg 32, dg 28] 1 [], gd true (gd false (gd true (pk (bo .gtr (vi 39) (li 0)) (lb true) (pk (bo .leq (vi 40) (li 0)) (bo .leq (vi 41) (li 0)) (lb false))) (bo .lss (vi 39) (li 0))) (bo .leq (vi 42) (li 0))) (vi 43)⟩, ⟨bo .leq (vi 43) (li 0), 4, [], .val, gd true (gd false (gd true (pk (bo .gtr (vi 39) (li 0)) (lb true) (pk (bo .leq (vi 40) (li 0)) (bo .leq (vi 41) (li 0)) (lb false))) (bo .lss (vi 39) (li 0))) (bo .leq (vi 42) (li 0))) (bo .leq (vi 43) (li 0))⟩, ⟨pk (bo .leq (vi 42) (li 0)) (bo .leq (vi 43) (li 0)) (lb false), 4, [], .pk, gd false (gd true (pk (bo .gtr (vi 39) (li 0)) (lb true) (pk (bo .leq (vi 40) (li 0)) (bo .leq (vi 41) (li 0)) (lb false))) (bo .lss (vi 39) (li 0))) (pk (bo .leq (vi 42) (li 0)) (bo .leq (vi 43) (li 0)) (lb false))⟩, ⟨pk (bo .lss (vi 39) (li 0)) (lb true) (pk (bo .leq (vi 42) (li 0)) (bo .leq (vi 43) (li 0)) (lb false)), 4, [], .pk, gd true (pk (bo .gtr (vi 39) (li 0)) (lb true) (pk (bo .leq (vi 40) (li 0)) (bo .leq (vi 41) (li 0)) (lb false))) (pk (bo .lss (vi 39) (li 0)) (lb true) (pk (bo .leq (vi 42) (li 0)) (bo .leq (vi 43) (li 0)) (lb false)))⟩, ⟨pk (pk (bo .gtr (vi 39) (li 0)) (lb true) (pk (bo .leq (vi 40) (li 0)) (bo .leq (vi 41) (li 0)) (lb false))) (pk (bo .lss (vi 39) (li 0)) (lb true) (pk (bo .leq (vi 42) (li 0)) (bo .leq (vi 43) (li 0)) (lb false))) (lb false), 4, [], .pk, pk (pk (bo .gtr (vi 39) (li 0)) (lb true) (pk (bo .leq (vi 40) (li 0)) (bo .leq (vi 41) (li 0)) (lb false))) (pk (bo .lss (vi 39) (li 0)) (lb true) (pk (bo .leq (vi 42) (li 0)) (bo .leq (vi 43) (li 0)) (lb false))) (lb false)⟩, pv (pk (pk (bo .gtr (vi 39) (li 0)) (lb true) (pk (bo .leq (vi 40) (li 0)) (bo .leq (vi 41) (li 0)) (lb false))) (pk (bo .lss (vi 39) (li 0)) (lb true) (pk (bo .leq (vi 42) (li 0)) (bo .leq (vi 43) (li 0)) (lb false))) (lb false)) 4], [7, 14, 26, 33]⟩
theorem rising_law {t t' : Value} {s s' : Bool} {m m' : Nat} {x x' p : Int} {w : World} (h : ADy w t s m x) (h' : ADy w t' s' m' x') (hT : TB w) :
 Calls Tryd.prog 3 #[t, t', .int .i64 p] w fun en w' => en = .returned (.bool true) ∧ BL w w' := by
 obtain ⟨A0, n0, c0, rfl, h⟩ := h
 have h : ADy w (.agg #[.bool s, .slice A0 n0 c0, .int .i64 x]) s m x := ⟨_, _, _, rfl, h⟩
 obtain ⟨A9, n9, c9, rfl, h'⟩ := h'
 have h' : ADy w (.agg #[.bool s', .slice A9 n9 c9, .int .i64 x']) s' m' x' := ⟨_, _, _, rfl, h'⟩
 refine fn_enter (u := 46) (fn := Tryd.f3) Tryd.func3 rfl Fwu3_0 [.bool s, .slice A0 n0 c0, .int .i64 x, .bool s', .slice A9 n9 c9, .int .i64 x', .int .i64 p] (by kernel_rfl) rfl (fun a0 S0 r0 => ?_)
 refine wp_seq (rk Rwu3_3 [] Fwu3_1 Bwu3_2 S0 r0 ?_)
 intro a1 _ _ r1 S1
 refine wp_seq ?_
 refine wp_seq (rk Rwu3_5 [] Fwu3_4 Bwu3_2 S1 r1 ?_)
 intro _ _ r2 _
 refine cgo (l := #[]) (by kernel_rfl) ?_
 refine (begins_q _ (tb hT r2)).mono ?_
 rintro _ V1 ⟨rfl, k1⟩
 refine ⟨[.bool true], rfl, rfl, by kernel_rfl, k1, ?_⟩
 intro a3 _ _ r3 S3
 refine wp_cond_split (t := !true) (S3.cnd (by kernel_rfl)) (fun q1 => ?_) (fun q1 => ?_)
 · cases q1
 · refine wp_skip ?_
   refine wp_seq ?_
   refine wp_seq (rk Rwu3_7 [] Fwu3_6 Bwu3_2 S3 r3 ?_)
   intro _ _ r4 _
   refine cgo (l := #[.int .i64 p]) (by kernel_rfl) ?_
   refine (fit_q p _).mono ?_
   rintro _ V2 ⟨rfl, k2⟩
   refine ⟨[.bool (decide (8 ≤ p ∧ p ≤ 4096))], rfl, rfl, by kernel_rfl, k2, ?_⟩
   refine ⟨fun c5 => ?_, fun c5 => ?_⟩
   · replace c5 := yvk (b := !(decide (8 ≤ p ∧ p ≤ 4096))) (by kernel_rfl) c5
     intro _ _ r6 _
     refine cgo (l := #[.agg #[.bool s, .slice A0 n0 c0, .int .i64 x]]) (by kernel_rfl) ?_
     refine (dright_all (h.below r6.first)).mono ?_
     rintro _ V3 ⟨rfl, k3⟩
     refine ⟨[.bool (Fit m x)], rfl, rfl, by kernel_rfl, k3, ?_⟩
     refine ⟨fun c7 => ?_, fun c7 => ?_⟩
     · replace c7 := yvk (b := if !(decide (8 ≤ p ∧ p ≤ 4096)) then true else !(Fit m x)) (by kernel_rfl) c7
       intro W8 g8 r8 _
       refine cgo (l := #[.agg #[.bool s', .slice A9 n9 c9, .int .i64 x']]) (by kernel_rfl) ?_
       refine (dright_all (h'.below r8.first)).mono ?_
       rintro _ V4 ⟨rfl, k4⟩
       refine ⟨[.bool (Fit m' x')], rfl, rfl, by kernel_rfl, k4, ?_⟩
       intro a9 g9 W9 r9 S9
       refine wp_cond_split (t := if if !(decide (8 ≤ p ∧ p ≤ 4096)) then true else !(Fit m x) then true else !(Fit m' x')) (S9.cnd (by kernel_rfl)) (fun q2 => ?_) (fun q2 => ?_)
       · refine wp_seq (rk Rwu3_9 [] Fwu3_8 Bwu3_2 S9 r9 ?_)
         intro _ g10 W10 r10 S10
         exact wp_ret (then_ret (ret_ok S10 [.bool true] (by kernel_rfl) (⟨rfl, r10.first⟩)))
       · have hok := ri_go3 q2
         have hoka : Fit m x = true ∧ 8 ≤ p ∧ p ≤ 4096 := ⟨hok.1, hok.2.2⟩
         have hokb : Fit m' x' = true ∧ 8 ≤ p ∧ p ≤ 4096 := ⟨hok.2.1, hok.2.2⟩
         refine wp_skip ?_
         refine wp_seq (rk Rwu3_12 [.st 2 0 (i6 11), .mv (vi 17)] Fwu3_10 Bwu3_13 S9 r9 ?_)
         intro W10 g10 r10 _
         refine cgo (l := #[.agg #[.bool s, .slice A0 n0 c0, .int .i64 x], .int .i64 p]) (by kernel_rfl) ?_
         refine (exp_q (p := p) (h.below r10.first) (tb hT r10)).mono ?_
         rintro _ V5 ⟨v, why1, rfl, ha, k5⟩
         obtain ⟨b5, A5, n5, c5, x5, d5, B5, m5, e5, y5, rfl⟩ := ha.ex6
         replace ha := ha.lower r10.fs
         refine ⟨[.bool b5, .slice A5 n5 c5, .int .i64 x5, .bool d5, .slice B5 m5 e5, .int .i64 y5, .int .i64 why1], rfl, rfl, by kernel_rfl, k5, ?_⟩
         intro _ _ _ r11 S11
         refine wp_seq (rk Rwu3_16 [.st 3 0 (i6 18), .mv (vi 24)] Fwu3_14 Bwu3_17 S11 r11 ?_)
         intro _ _ r12 _
         refine cgo (l := #[.agg #[.bool s', .slice A9 n9 c9, .int .i64 x'], .int .i64 p]) (by kernel_rfl) ?_
         refine (exp_q (p := p) (h'.below r12.first) (tb hT r12)).mono ?_
         rintro _ V6 ⟨v, why2, rfl, hb, k6⟩
         obtain ⟨b6, A6, n6, c6, x6, d6, B6, m6, e6, y6, rfl⟩ := hb.ex6
         replace hb := hb.lower r12.fs
         refine ⟨[.bool b6, .slice A6 n6 c6, .int .i64 x6, .bool d6, .slice B6 m6 e6, .int .i64 y6, .int .i64 why2], rfl, rfl, by kernel_rfl, k6, ?_⟩
         intro _ _ _ r13 S13
         refine wp_seq (rk Rwu3_20 [.st 4 0 (i6 25), .mv (vi 31)] Fwu3_18 Bwu3_21 S13 r13 ?_)
         intro _ _ r14 _
         refine cgo (l := #[.agg #[.bool s, .slice A0 n0 c0, .int .i64 x], .int .i64 p]) (by kernel_rfl) ?_
         refine (expm1_q (p := p) (h.below r14.first) (tb hT r14)).mono ?_
         rintro _ V7 ⟨v, why3, rfl, hd, k7⟩
         obtain ⟨b7, A7, n7, c7, x7, d7, B7, m7, e7, y7, rfl⟩ := hd.ex6
         replace hd := hd.lower r14.fs
         refine ⟨[.bool b7, .slice A7 n7 c7, .int .i64 x7, .bool d7, .slice B7 m7 e7, .int .i64 y7, .int .i64 why3], rfl, rfl, by kernel_rfl, k7, ?_⟩
         intro _ _ _ r15 S15
         refine wp_seq (rk Rwu3_24 [.st 5 0 (i6 32), .mv (vi 38)] Fwu3_22 Bwu3_25 S15 r15 ?_)
         intro _ _ r16 _
         refine cgo (l := #[.agg #[.bool s', .slice A9 n9 c9, .int .i64 x'], .int .i64 p]) (by kernel_rfl) ?_
         refine (expm1_q (p := p) (h'.below r16.first) (tb hT r16)).mono ?_
         rintro _ V8 ⟨v, why4, rfl, he, k8⟩
         obtain ⟨b8, A8, n8, c8, x8, d8, B8, m8, e8, y8, rfl⟩ := he.ex6
         replace he := he.lower r16.fs
         refine ⟨[.bool b8, .slice A8 n8 c8, .int .i64 x8, .bool d8, .slice B8 m8 e8, .int .i64 y8, .int .i64 why4], rfl, rfl, by kernel_rfl, k8, ?_⟩
         intro _ _ _ r17 S17
         refine wp_seq ?_
         refine wp_seq (rk Rwu3_27 [] Fwu3_26 Bwu3_25 S17 r17 ?_)
         intro _ _ _ r18 S18
         refine wp_cond_split (t := if if if why1 != 0 then true else why2 != 0 then true else why3 != 0 then true else why4 != 0) (S18.cnd (by kernel_rfl)) (fun q3 => ?_) (fun q3 => ?_)
         · refine wp_seq (rk Rwu3_29 [] Fwu3_28 Bwu3_25 S18 r18 ?_)
           refine ⟨fun c19 => ?_, fun c19 => ?_⟩
           · replace c19 := yvk (b := if why1 == why3 then why2 == why4 else false) (by kernel_rfl) c19
             have hne := c19
             intro W20 g20 r20 _
             refine cgo (l := #[.agg #[.bool s, .slice A0 n0 c0, .int .i64 x]]) (by kernel_rfl) ?_
             refine (dfar_q (h.below r20.first) hok.1 (tb hT r20)).mono ?_
             rintro _ V9 ⟨r, rfl, hr, k9⟩
             refine ⟨[.bool r], rfl, rfl, by kernel_rfl, k9, ?_⟩
             refine ⟨fun c21 => ?_, fun c21 => ?_⟩
             · replace c21 := yvk (b := if if why1 == why3 then why2 == why4 else false then true else r) (by kernel_rfl) c21
               have h0 := c21
               intro W22 g22 r22 _
               refine cgo (l := #[.agg #[.bool s', .slice A9 n9 c9, .int .i64 x']]) (by kernel_rfl) ?_
               refine (dfar_q (h'.below r22.first) hok.2.1 (tb hT r22)).mono ?_
               rintro _ V10 ⟨tt, rfl, htt, k10⟩
               refine ⟨[.bool tt], rfl, rfl, by kernel_rfl, k10, ?_⟩
               intro _ _ _ r23 S23
               exact wp_ret (then_ret (ret_ok S23 [.bool (if if if why1 == why3 then why2 == why4 else false then true else r then true else tt)] (by kernel_rfl) (⟨by have hr0 : r = false := (by rw [hne] at h0; simpa using h0); rw [h0, ri_far (why_same ha hd hoka) (why_same hb he hokb) hne hr htt hr0]; rfl, r23.first⟩)))
             · replace c21 := ynk (b := if if why1 == why3 then why2 == why4 else false then true else r) (by kernel_rfl) c21
               have h0 := c21
               intro _ g22 W22 r22 S22
               exact wp_ret (then_ret (ret_ok S22 [.bool (if if if why1 == why3 then why2 == why4 else false then true else r then true else false)] (by kernel_rfl) (⟨by rw [h0]; rfl, r22.first⟩)))
           · replace c19 := ynk (b := if why1 == why3 then why2 == why4 else false) (by kernel_rfl) c19
             have heq := c19
             refine ⟨fun c20 => ?_, fun c20 => ?_⟩
             · replace c20 := yvk (b := if if why1 == why3 then why2 == why4 else false then true else false) (by kernel_rfl) c20
               rw [heq] at c20; cases c20
             · replace c20 := ynk (b := if if why1 == why3 then why2 == why4 else false then true else false) (by kernel_rfl) c20
               intro _ _ _ r21 S21
               exact wp_ret (then_ret (ret_ok S21 [.bool (if if if why1 == why3 then why2 == why4 else false then true else false then true else false)] (by kernel_rfl) (⟨by rw [heq]; rfl, r21.first⟩)))
         · obtain ⟨w1, w2, w3, w4⟩ := ri_or4 q3
           have ha0 := ha
           have hb0 := hb
           have hd0 := hd
           have he0 := he
           rw [w1] at ha0
           rw [w2] at hb0
           rw [w3] at hd0
           rw [w4] at he0
           obtain ⟨l1, u1, hx, f11, f12, f13, f14, _, _, a1, c1, ea, ea1, ea2⟩ := got_e ha0
           obtain ⟨l2, u2, hy, f21, f22, f23, f24, _, _, a2, c2, eb, eb1, eb2⟩ := got_e hb0
           obtain ⟨l3, u3, hu, f31, f32, f33, f34, _, a3, c3, ed, ed1, ed2⟩ := got_l hd0
           obtain ⟨l4, u4, hv, f41, f42, f43, f44, _, a4, c4, ee, ee1, ee2⟩ := got_l he0
           refine wp_skip ?_
           refine wp_seq (rk Rwu3_31 [] Fwu3_30 Bwu3_25 S18 r18 ?_)
           intro _ _ r19 _
           refine cgo (l := #[.agg #[.bool s, .slice A0 n0 c0, .int .i64 x], .agg #[.bool s', .slice A9 n9 c9, .int .i64 x']]) (by kernel_rfl) ?_
           refine (dorder_g ((h.below r19.first).g hok.1) ((h'.below r19.first).g hok.2.1) (by decide) (tb hT r19)).mono ?_
           rintro _ V11 ⟨rfl, k11⟩
           rcases cmp_three (Dv (sgn s m) x) (Dv (sgn s' m') x') with ⟨hz, hn⟩ | ⟨hz, hn, hn2⟩ | ⟨hz, hn2⟩
           · rw [hz]
             refine ⟨[.int .i64 (-1 : Int)], rfl, rfl, by kernel_rfl, k11, ?_⟩
             intro a20 g20 W20 r20 S20
             refine wp_seq (rk Rwu3_33 [] Fwu3_32 Bwu3_25 S20 r20 ?_)
             refine ⟨fun c21 => ?_, fun c21 => ?_⟩
             · replace c21 := yvk (b := decide ((-1 : Int) > 0)) (by kernel_rfl) c21
               intro W22 g22 r22 _
               refine cgo (l := #[.agg #[.bool b5, .slice A5 n5 c5, .int .i64 x5], .agg #[.bool d6, .slice B6 m6 e6, .int .i64 y6]]) (by kernel_rfl) ?_
               refine (dorder_q (hx.lat (r22.at_ 4 _ rfl)).lo.c (hy.lat (r22.at_ 5 _ rfl)).hi.c (by decide) (tb hT r22)).mono ?_
               rintro _ V12 ⟨rfl, k12⟩
               rcases cmp_two (show l1 ≤ u2 from ri_e (u := u1) (l' := l2) ea eb hn ea1 eb2) with hz12 | hz12
               · rw [hz12]
                 refine ⟨[.int .i64 (-1 : Int)], rfl, rfl, by kernel_rfl, k12, ?_⟩
                 refine ⟨fun c23 => ?_, fun c23 => ?_⟩
                 · replace c23 := yvk (b := decide ((-1 : Int) ≤ 0)) (by kernel_rfl) c23
                   intro W24 g24 r24 _
                   refine cgo (l := #[.agg #[.bool b7, .slice A7 n7 c7, .int .i64 x7], .agg #[.bool d8, .slice B8 m8 e8, .int .i64 y8]]) (by kernel_rfl) ?_
                   refine (dorder_q (hu.lat (r24.at_ 6 _ rfl)).lo.c (hv.lat (r24.at_ 7 _ rfl)).hi.c (by decide) (tb hT r24)).mono ?_
                   rintro _ V13 ⟨rfl, k13⟩
                   rcases cmp_two (show l3 ≤ u4 from ri_l (u := u3) (l' := l4) ed ee hn ed1 ee2) with hz13 | hz13
                   · rw [hz13]
                     refine ⟨[.int .i64 (-1 : Int)], rfl, rfl, by kernel_rfl, k13, ?_⟩
                     refine ⟨fun c25 => ?_, fun c25 => ?_⟩
                     · replace c25 := yvk (b := decide ((-1 : Int) < 0)) (by kernel_rfl) c25
                       simp at c25
                     · replace c25 := ynk (b := decide ((-1 : Int) < 0)) (by kernel_rfl) c25
                       refine ⟨fun c26 => ?_, fun c26 => ?_⟩
                       · exact (ykn (by kernel_rfl) c26).elim
                       · intro a27 g27 W27 r27 S27
                         exact rt S27 [.bool (if if decide ((-1 : Int) > 0) then true else if decide ((-1 : Int) ≤ 0) then decide ((-1 : Int) ≤ 0) else false then if decide ((-1 : Int) < 0) then true else if decide (0 ≤ 0) then decide (0 ≤ 0) else false else false)] (⟨rfl, r27.first⟩)
                   · rw [hz13]
                     refine ⟨[.int .i64 (0 : Int)], rfl, rfl, by kernel_rfl, k13, ?_⟩
                     refine ⟨fun c25 => ?_, fun c25 => ?_⟩
                     · replace c25 := yvk (b := decide ((-1 : Int) < 0)) (by kernel_rfl) c25
                       simp at c25
                     · replace c25 := ynk (b := decide ((-1 : Int) < 0)) (by kernel_rfl) c25
                       refine ⟨fun c26 => ?_, fun c26 => ?_⟩
                       · exact (ykn (by kernel_rfl) c26).elim
                       · intro a27 g27 W27 r27 S27
                         exact rt S27 [.bool (if if decide ((-1 : Int) > 0) then true else if decide ((-1 : Int) ≤ 0) then decide ((0 : Int) ≤ 0) else false then if decide ((-1 : Int) < 0) then true else if decide (0 ≤ 0) then decide (0 ≤ 0) else false else false)] (⟨rfl, r27.first⟩)
                 · replace c23 := ynk (b := decide ((-1 : Int) ≤ 0)) (by kernel_rfl) c23
                   simp at c23
               · rw [hz12]
                 refine ⟨[.int .i64 (0 : Int)], rfl, rfl, by kernel_rfl, k12, ?_⟩
                 refine ⟨fun c23 => ?_, fun c23 => ?_⟩
                 · replace c23 := yvk (b := decide ((0 : Int) ≤ 0)) (by kernel_rfl) c23
                   intro W24 g24 r24 _
                   refine cgo (l := #[.agg #[.bool b7, .slice A7 n7 c7, .int .i64 x7], .agg #[.bool d8, .slice B8 m8 e8, .int .i64 y8]]) (by kernel_rfl) ?_
                   refine (dorder_q (hu.lat (r24.at_ 6 _ rfl)).lo.c (hv.lat (r24.at_ 7 _ rfl)).hi.c (by decide) (tb hT r24)).mono ?_
                   rintro _ V14 ⟨rfl, k14⟩
                   rcases cmp_two (show l3 ≤ u4 from ri_l (u := u3) (l' := l4) ed ee hn ed1 ee2) with hz14 | hz14
                   · rw [hz14]
                     refine ⟨[.int .i64 (-1 : Int)], rfl, rfl, by kernel_rfl, k14, ?_⟩
                     refine ⟨fun c25 => ?_, fun c25 => ?_⟩
                     · replace c25 := yvk (b := decide ((-1 : Int) < 0)) (by kernel_rfl) c25
                       simp at c25
                     · replace c25 := ynk (b := decide ((-1 : Int) < 0)) (by kernel_rfl) c25
                       refine ⟨fun c26 => ?_, fun c26 => ?_⟩
                       · exact (ykn (by kernel_rfl) c26).elim
                       · intro a27 g27 W27 r27 S27
                         exact rt S27 [.bool (if if decide ((-1 : Int) > 0) then true else if decide ((0 : Int) ≤ 0) then decide ((-1 : Int) ≤ 0) else false then if decide ((-1 : Int) < 0) then true else if decide (0 ≤ 0) then decide (0 ≤ 0) else false else false)] (⟨rfl, r27.first⟩)
                   · rw [hz14]
                     refine ⟨[.int .i64 (0 : Int)], rfl, rfl, by kernel_rfl, k14, ?_⟩
                     refine ⟨fun c25 => ?_, fun c25 => ?_⟩
                     · replace c25 := yvk (b := decide ((-1 : Int) < 0)) (by kernel_rfl) c25
                       simp at c25
                     · replace c25 := ynk (b := decide ((-1 : Int) < 0)) (by kernel_rfl) c25
                       refine ⟨fun c26 => ?_, fun c26 => ?_⟩
                       · exact (ykn (by kernel_rfl) c26).elim
                       · intro a27 g27 W27 r27 S27
                         exact rt S27 [.bool (if if decide ((-1 : Int) > 0) then true else if decide ((0 : Int) ≤ 0) then decide ((0 : Int) ≤ 0) else false then if decide ((-1 : Int) < 0) then true else if decide (0 ≤ 0) then decide (0 ≤ 0) else false else false)] (⟨rfl, r27.first⟩)
                 · replace c23 := ynk (b := decide ((0 : Int) ≤ 0)) (by kernel_rfl) c23
                   simp at c23
             · replace c21 := ynk (b := decide ((-1 : Int) > 0)) (by kernel_rfl) c21
               simp at c21
           · rw [hz]
             refine ⟨[.int .i64 (0 : Int)], rfl, rfl, by kernel_rfl, k11, ?_⟩
             intro a20 g20 W20 r20 S20
             refine wp_seq (rk Rwu3_33 [] Fwu3_32 Bwu3_25 S20 r20 ?_)
             refine ⟨fun c21 => ?_, fun c21 => ?_⟩
             · replace c21 := yvk (b := decide ((0 : Int) > 0)) (by kernel_rfl) c21
               intro W22 g22 r22 _
               refine cgo (l := #[.agg #[.bool b5, .slice A5 n5 c5, .int .i64 x5], .agg #[.bool d6, .slice B6 m6 e6, .int .i64 y6]]) (by kernel_rfl) ?_
               refine (dorder_q (hx.lat (r22.at_ 4 _ rfl)).lo.c (hy.lat (r22.at_ 5 _ rfl)).hi.c (by decide) (tb hT r22)).mono ?_
               rintro _ V15 ⟨rfl, k15⟩
               rcases cmp_two (show l1 ≤ u2 from ri_e (u := u1) (l' := l2) ea eb hn ea1 eb2) with hz15 | hz15
               · rw [hz15]
                 refine ⟨[.int .i64 (-1 : Int)], rfl, rfl, by kernel_rfl, k15, ?_⟩
                 refine ⟨fun c23 => ?_, fun c23 => ?_⟩
                 · replace c23 := yvk (b := decide ((-1 : Int) ≤ 0)) (by kernel_rfl) c23
                   intro W24 g24 r24 _
                   refine cgo (l := #[.agg #[.bool b7, .slice A7 n7 c7, .int .i64 x7], .agg #[.bool d8, .slice B8 m8 e8, .int .i64 y8]]) (by kernel_rfl) ?_
                   refine (dorder_q (hu.lat (r24.at_ 6 _ rfl)).lo.c (hv.lat (r24.at_ 7 _ rfl)).hi.c (by decide) (tb hT r24)).mono ?_
                   rintro _ V16 ⟨rfl, k16⟩
                   rcases cmp_two (show l3 ≤ u4 from ri_l (u := u3) (l' := l4) ed ee hn ed1 ee2) with hz16 | hz16
                   · rw [hz16]
                     refine ⟨[.int .i64 (-1 : Int)], rfl, rfl, by kernel_rfl, k16, ?_⟩
                     refine ⟨fun c25 => ?_, fun c25 => ?_⟩
                     · replace c25 := yvk (b := decide ((0 : Int) < 0)) (by kernel_rfl) c25
                       intro W26 g26 r26 _
                       refine cgo (l := #[.agg #[.bool b6, .slice A6 n6 c6, .int .i64 x6], .agg #[.bool d5, .slice B5 m5 e5, .int .i64 y5]]) (by kernel_rfl) ?_
                       refine (dorder_q (hy.lat (r26.at_ 5 _ rfl)).lo.c (hx.lat (r26.at_ 4 _ rfl)).hi.c (by decide) (tb hT r26)).mono ?_
                       rintro _ V17 ⟨rfl, k17⟩
                       rcases cmp_two (show l2 ≤ u1 from ri_e (u := u2) (l' := l1) eb ea hn2 eb1 ea2) with hz17 | hz17
                       · rw [hz17]
                         refine ⟨[.int .i64 (-1 : Int)], rfl, rfl, by kernel_rfl, k17, ?_⟩
                         refine ⟨fun c27 => ?_, fun c27 => ?_⟩
                         · replace c27 := yvk (b := decide ((-1 : Int) ≤ 0)) (by kernel_rfl) c27
                           intro W28 g28 r28 _
                           refine cgo (l := #[.agg #[.bool b8, .slice A8 n8 c8, .int .i64 x8], .agg #[.bool d7, .slice B7 m7 e7, .int .i64 y7]]) (by kernel_rfl) ?_
                           refine (dorder_q (hv.lat (r28.at_ 7 _ rfl)).lo.c (hu.lat (r28.at_ 6 _ rfl)).hi.c (by decide) (tb hT r28)).mono ?_
                           rintro _ V18 ⟨rfl, k18⟩
                           rcases cmp_two (show l4 ≤ u3 from ri_l (u := u4) (l' := l3) ee ed hn2 ee1 ed2) with hz18 | hz18
                           · rw [hz18]
                             refine ⟨[.int .i64 (-1 : Int)], rfl, rfl, by kernel_rfl, k18, ?_⟩
                             intro a29 g29 W29 r29 S29
                             exact rt S29 [.bool (if if decide ((0 : Int) > 0) then true else if decide ((-1 : Int) ≤ 0) then decide ((-1 : Int) ≤ 0) else false then if decide ((0 : Int) < 0) then true else if decide ((-1 : Int) ≤ 0) then decide ((-1 : Int) ≤ 0) else false else false)] (⟨rfl, r29.first⟩)
                           · rw [hz18]
                             refine ⟨[.int .i64 (0 : Int)], rfl, rfl, by kernel_rfl, k18, ?_⟩
                             intro a29 g29 W29 r29 S29
                             exact rt S29 [.bool (if if decide ((0 : Int) > 0) then true else if decide ((-1 : Int) ≤ 0) then decide ((-1 : Int) ≤ 0) else false then if decide ((0 : Int) < 0) then true else if decide ((-1 : Int) ≤ 0) then decide ((0 : Int) ≤ 0) else false else false)] (⟨rfl, r29.first⟩)
                         · replace c27 := ynk (b := decide ((-1 : Int) ≤ 0)) (by kernel_rfl) c27
                           simp at c27
                       · rw [hz17]
                         refine ⟨[.int .i64 (0 : Int)], rfl, rfl, by kernel_rfl, k17, ?_⟩
                         refine ⟨fun c27 => ?_, fun c27 => ?_⟩
                         · replace c27 := yvk (b := decide ((0 : Int) ≤ 0)) (by kernel_rfl) c27
                           intro W28 g28 r28 _
                           refine cgo (l := #[.agg #[.bool b8, .slice A8 n8 c8, .int .i64 x8], .agg #[.bool d7, .slice B7 m7 e7, .int .i64 y7]]) (by kernel_rfl) ?_
                           refine (dorder_q (hv.lat (r28.at_ 7 _ rfl)).lo.c (hu.lat (r28.at_ 6 _ rfl)).hi.c (by decide) (tb hT r28)).mono ?_
                           rintro _ V19 ⟨rfl, k19⟩
                           rcases cmp_two (show l4 ≤ u3 from ri_l (u := u4) (l' := l3) ee ed hn2 ee1 ed2) with hz19 | hz19
                           · rw [hz19]
                             refine ⟨[.int .i64 (-1 : Int)], rfl, rfl, by kernel_rfl, k19, ?_⟩
                             intro a29 g29 W29 r29 S29
                             exact rt S29 [.bool (if if decide ((0 : Int) > 0) then true else if decide ((-1 : Int) ≤ 0) then decide ((-1 : Int) ≤ 0) else false then if decide ((0 : Int) < 0) then true else if decide ((0 : Int) ≤ 0) then decide ((-1 : Int) ≤ 0) else false else false)] (⟨rfl, r29.first⟩)
                           · rw [hz19]
                             refine ⟨[.int .i64 (0 : Int)], rfl, rfl, by kernel_rfl, k19, ?_⟩
                             intro a29 g29 W29 r29 S29
                             exact rt S29 [.bool (if if decide ((0 : Int) > 0) then true else if decide ((-1 : Int) ≤ 0) then decide ((-1 : Int) ≤ 0) else false then if decide ((0 : Int) < 0) then true else if decide ((0 : Int) ≤ 0) then decide ((0 : Int) ≤ 0) else false else false)] (⟨rfl, r29.first⟩)
                         · replace c27 := ynk (b := decide ((0 : Int) ≤ 0)) (by kernel_rfl) c27
                           simp at c27
                     · replace c25 := ynk (b := decide ((0 : Int) < 0)) (by kernel_rfl) c25
                       simp at c25
                   · rw [hz16]
                     refine ⟨[.int .i64 (0 : Int)], rfl, rfl, by kernel_rfl, k16, ?_⟩
                     refine ⟨fun c25 => ?_, fun c25 => ?_⟩
                     · replace c25 := yvk (b := decide ((0 : Int) < 0)) (by kernel_rfl) c25
                       intro W26 g26 r26 _
                       refine cgo (l := #[.agg #[.bool b6, .slice A6 n6 c6, .int .i64 x6], .agg #[.bool d5, .slice B5 m5 e5, .int .i64 y5]]) (by kernel_rfl) ?_
                       refine (dorder_q (hy.lat (r26.at_ 5 _ rfl)).lo.c (hx.lat (r26.at_ 4 _ rfl)).hi.c (by decide) (tb hT r26)).mono ?_
                       rintro _ V20 ⟨rfl, k20⟩
                       rcases cmp_two (show l2 ≤ u1 from ri_e (u := u2) (l' := l1) eb ea hn2 eb1 ea2) with hz20 | hz20
                       · rw [hz20]
                         refine ⟨[.int .i64 (-1 : Int)], rfl, rfl, by kernel_rfl, k20, ?_⟩
                         refine ⟨fun c27 => ?_, fun c27 => ?_⟩
                         · replace c27 := yvk (b := decide ((-1 : Int) ≤ 0)) (by kernel_rfl) c27
                           intro W28 g28 r28 _
                           refine cgo (l := #[.agg #[.bool b8, .slice A8 n8 c8, .int .i64 x8], .agg #[.bool d7, .slice B7 m7 e7, .int .i64 y7]]) (by kernel_rfl) ?_
                           refine (dorder_q (hv.lat (r28.at_ 7 _ rfl)).lo.c (hu.lat (r28.at_ 6 _ rfl)).hi.c (by decide) (tb hT r28)).mono ?_
                           rintro _ V21 ⟨rfl, k21⟩
                           rcases cmp_two (show l4 ≤ u3 from ri_l (u := u4) (l' := l3) ee ed hn2 ee1 ed2) with hz21 | hz21
                           · rw [hz21]
                             refine ⟨[.int .i64 (-1 : Int)], rfl, rfl, by kernel_rfl, k21, ?_⟩
                             intro a29 g29 W29 r29 S29
                             exact rt S29 [.bool (if if decide ((0 : Int) > 0) then true else if decide ((-1 : Int) ≤ 0) then decide ((0 : Int) ≤ 0) else false then if decide ((0 : Int) < 0) then true else if decide ((-1 : Int) ≤ 0) then decide ((-1 : Int) ≤ 0) else false else false)] (⟨rfl, r29.first⟩)
                           · rw [hz21]
                             refine ⟨[.int .i64 (0 : Int)], rfl, rfl, by kernel_rfl, k21, ?_⟩
                             intro a29 g29 W29 r29 S29
                             exact rt S29 [.bool (if if decide ((0 : Int) > 0) then true else if decide ((-1 : Int) ≤ 0) then decide ((0 : Int) ≤ 0) else false then if decide ((0 : Int) < 0) then true else if decide ((-1 : Int) ≤ 0) then decide ((0 : Int) ≤ 0) else false else false)] (⟨rfl, r29.first⟩)
                         · replace c27 := ynk (b := decide ((-1 : Int) ≤ 0)) (by kernel_rfl) c27
                           simp at c27
                       · rw [hz20]
                         refine ⟨[.int .i64 (0 : Int)], rfl, rfl, by kernel_rfl, k20, ?_⟩
                         refine ⟨fun c27 => ?_, fun c27 => ?_⟩
                         · replace c27 := yvk (b := decide ((0 : Int) ≤ 0)) (by kernel_rfl) c27
                           intro W28 g28 r28 _
                           refine cgo (l := #[.agg #[.bool b8, .slice A8 n8 c8, .int .i64 x8], .agg #[.bool d7, .slice B7 m7 e7, .int .i64 y7]]) (by kernel_rfl) ?_
                           refine (dorder_q (hv.lat (r28.at_ 7 _ rfl)).lo.c (hu.lat (r28.at_ 6 _ rfl)).hi.c (by decide) (tb hT r28)).mono ?_
                           rintro _ V22 ⟨rfl, k22⟩
                           rcases cmp_two (show l4 ≤ u3 from ri_l (u := u4) (l' := l3) ee ed hn2 ee1 ed2) with hz22 | hz22
                           · rw [hz22]
                             refine ⟨[.int .i64 (-1 : Int)], rfl, rfl, by kernel_rfl, k22, ?_⟩
                             intro a29 g29 W29 r29 S29
                             exact rt S29 [.bool (if if decide ((0 : Int) > 0) then true else if decide ((-1 : Int) ≤ 0) then decide ((0 : Int) ≤ 0) else false then if decide ((0 : Int) < 0) then true else if decide ((0 : Int) ≤ 0) then decide ((-1 : Int) ≤ 0) else false else false)] (⟨rfl, r29.first⟩)
                           · rw [hz22]
                             refine ⟨[.int .i64 (0 : Int)], rfl, rfl, by kernel_rfl, k22, ?_⟩
                             intro a29 g29 W29 r29 S29
                             exact rt S29 [.bool (if if decide ((0 : Int) > 0) then true else if decide ((-1 : Int) ≤ 0) then decide ((0 : Int) ≤ 0) else false then if decide ((0 : Int) < 0) then true else if decide ((0 : Int) ≤ 0) then decide ((0 : Int) ≤ 0) else false else false)] (⟨rfl, r29.first⟩)
                         · replace c27 := ynk (b := decide ((0 : Int) ≤ 0)) (by kernel_rfl) c27
                           simp at c27
                     · replace c25 := ynk (b := decide ((0 : Int) < 0)) (by kernel_rfl) c25
                       simp at c25
                 · replace c23 := ynk (b := decide ((-1 : Int) ≤ 0)) (by kernel_rfl) c23
                   simp at c23
               · rw [hz15]
                 refine ⟨[.int .i64 (0 : Int)], rfl, rfl, by kernel_rfl, k15, ?_⟩
                 refine ⟨fun c23 => ?_, fun c23 => ?_⟩
                 · replace c23 := yvk (b := decide ((0 : Int) ≤ 0)) (by kernel_rfl) c23
                   intro W24 g24 r24 _
                   refine cgo (l := #[.agg #[.bool b7, .slice A7 n7 c7, .int .i64 x7], .agg #[.bool d8, .slice B8 m8 e8, .int .i64 y8]]) (by kernel_rfl) ?_
                   refine (dorder_q (hu.lat (r24.at_ 6 _ rfl)).lo.c (hv.lat (r24.at_ 7 _ rfl)).hi.c (by decide) (tb hT r24)).mono ?_
                   rintro _ V23 ⟨rfl, k23⟩
                   rcases cmp_two (show l3 ≤ u4 from ri_l (u := u3) (l' := l4) ed ee hn ed1 ee2) with hz23 | hz23
                   · rw [hz23]
                     refine ⟨[.int .i64 (-1 : Int)], rfl, rfl, by kernel_rfl, k23, ?_⟩
                     refine ⟨fun c25 => ?_, fun c25 => ?_⟩
                     · replace c25 := yvk (b := decide ((0 : Int) < 0)) (by kernel_rfl) c25
                       intro W26 g26 r26 _
                       refine cgo (l := #[.agg #[.bool b6, .slice A6 n6 c6, .int .i64 x6], .agg #[.bool d5, .slice B5 m5 e5, .int .i64 y5]]) (by kernel_rfl) ?_
                       refine (dorder_q (hy.lat (r26.at_ 5 _ rfl)).lo.c (hx.lat (r26.at_ 4 _ rfl)).hi.c (by decide) (tb hT r26)).mono ?_
                       rintro _ V24 ⟨rfl, k24⟩
                       rcases cmp_two (show l2 ≤ u1 from ri_e (u := u2) (l' := l1) eb ea hn2 eb1 ea2) with hz24 | hz24
                       · rw [hz24]
                         refine ⟨[.int .i64 (-1 : Int)], rfl, rfl, by kernel_rfl, k24, ?_⟩
                         refine ⟨fun c27 => ?_, fun c27 => ?_⟩
                         · replace c27 := yvk (b := decide ((-1 : Int) ≤ 0)) (by kernel_rfl) c27
                           intro W28 g28 r28 _
                           refine cgo (l := #[.agg #[.bool b8, .slice A8 n8 c8, .int .i64 x8], .agg #[.bool d7, .slice B7 m7 e7, .int .i64 y7]]) (by kernel_rfl) ?_
                           refine (dorder_q (hv.lat (r28.at_ 7 _ rfl)).lo.c (hu.lat (r28.at_ 6 _ rfl)).hi.c (by decide) (tb hT r28)).mono ?_
                           rintro _ V25 ⟨rfl, k25⟩
                           rcases cmp_two (show l4 ≤ u3 from ri_l (u := u4) (l' := l3) ee ed hn2 ee1 ed2) with hz25 | hz25
                           · rw [hz25]
                             refine ⟨[.int .i64 (-1 : Int)], rfl, rfl, by kernel_rfl, k25, ?_⟩
                             intro a29 g29 W29 r29 S29
                             exact rt S29 [.bool (if if decide ((0 : Int) > 0) then true else if decide ((0 : Int) ≤ 0) then decide ((-1 : Int) ≤ 0) else false then if decide ((0 : Int) < 0) then true else if decide ((-1 : Int) ≤ 0) then decide ((-1 : Int) ≤ 0) else false else false)] (⟨rfl, r29.first⟩)
                           · rw [hz25]
                             refine ⟨[.int .i64 (0 : Int)], rfl, rfl, by kernel_rfl, k25, ?_⟩
                             intro a29 g29 W29 r29 S29
                             exact rt S29 [.bool (if if decide ((0 : Int) > 0) then true else if decide ((0 : Int) ≤ 0) then decide ((-1 : Int) ≤ 0) else false then if decide ((0 : Int) < 0) then true else if decide ((-1 : Int) ≤ 0) then decide ((0 : Int) ≤ 0) else false else false)] (⟨rfl, r29.first⟩)
                         · replace c27 := ynk (b := decide ((-1 : Int) ≤ 0)) (by kernel_rfl) c27
                           simp at c27
                       · rw [hz24]
                         refine ⟨[.int .i64 (0 : Int)], rfl, rfl, by kernel_rfl, k24, ?_⟩
                         refine ⟨fun c27 => ?_, fun c27 => ?_⟩
                         · replace c27 := yvk (b := decide ((0 : Int) ≤ 0)) (by kernel_rfl) c27
                           intro W28 g28 r28 _
                           refine cgo (l := #[.agg #[.bool b8, .slice A8 n8 c8, .int .i64 x8], .agg #[.bool d7, .slice B7 m7 e7, .int .i64 y7]]) (by kernel_rfl) ?_
                           refine (dorder_q (hv.lat (r28.at_ 7 _ rfl)).lo.c (hu.lat (r28.at_ 6 _ rfl)).hi.c (by decide) (tb hT r28)).mono ?_
                           rintro _ V26 ⟨rfl, k26⟩
                           rcases cmp_two (show l4 ≤ u3 from ri_l (u := u4) (l' := l3) ee ed hn2 ee1 ed2) with hz26 | hz26
                           · rw [hz26]
                             refine ⟨[.int .i64 (-1 : Int)], rfl, rfl, by kernel_rfl, k26, ?_⟩
                             intro a29 g29 W29 r29 S29
                             exact rt S29 [.bool (if if decide ((0 : Int) > 0) then true else if decide ((0 : Int) ≤ 0) then decide ((-1 : Int) ≤ 0) else false then if decide ((0 : Int) < 0) then true else if decide ((0 : Int) ≤ 0) then decide ((-1 : Int) ≤ 0) else false else false)] (⟨rfl, r29.first⟩)
                           · rw [hz26]
                             refine ⟨[.int .i64 (0 : Int)], rfl, rfl, by kernel_rfl, k26, ?_⟩
                             intro a29 g29 W29 r29 S29
                             exact rt S29 [.bool (if if decide ((0 : Int) > 0) then true else if decide ((0 : Int) ≤ 0) then decide ((-1 : Int) ≤ 0) else false then if decide ((0 : Int) < 0) then true else if decide ((0 : Int) ≤ 0) then decide ((0 : Int) ≤ 0) else false else false)] (⟨rfl, r29.first⟩)
                         · replace c27 := ynk (b := decide ((0 : Int) ≤ 0)) (by kernel_rfl) c27
                           simp at c27
                     · replace c25 := ynk (b := decide ((0 : Int) < 0)) (by kernel_rfl) c25
                       simp at c25
                   · rw [hz23]
                     refine ⟨[.int .i64 (0 : Int)], rfl, rfl, by kernel_rfl, k23, ?_⟩
                     refine ⟨fun c25 => ?_, fun c25 => ?_⟩
                     · replace c25 := yvk (b := decide ((0 : Int) < 0)) (by kernel_rfl) c25
                       intro W26 g26 r26 _
                       refine cgo (l := #[.agg #[.bool b6, .slice A6 n6 c6, .int .i64 x6], .agg #[.bool d5, .slice B5 m5 e5, .int .i64 y5]]) (by kernel_rfl) ?_
                       refine (dorder_q (hy.lat (r26.at_ 5 _ rfl)).lo.c (hx.lat (r26.at_ 4 _ rfl)).hi.c (by decide) (tb hT r26)).mono ?_
                       rintro _ V27 ⟨rfl, k27⟩
                       rcases cmp_two (show l2 ≤ u1 from ri_e (u := u2) (l' := l1) eb ea hn2 eb1 ea2) with hz27 | hz27
                       · rw [hz27]
                         refine ⟨[.int .i64 (-1 : Int)], rfl, rfl, by kernel_rfl, k27, ?_⟩
                         refine ⟨fun c27 => ?_, fun c27 => ?_⟩
                         · replace c27 := yvk (b := decide ((-1 : Int) ≤ 0)) (by kernel_rfl) c27
                           intro W28 g28 r28 _
                           refine cgo (l := #[.agg #[.bool b8, .slice A8 n8 c8, .int .i64 x8], .agg #[.bool d7, .slice B7 m7 e7, .int .i64 y7]]) (by kernel_rfl) ?_
                           refine (dorder_q (hv.lat (r28.at_ 7 _ rfl)).lo.c (hu.lat (r28.at_ 6 _ rfl)).hi.c (by decide) (tb hT r28)).mono ?_
                           rintro _ V28 ⟨rfl, k28⟩
                           rcases cmp_two (show l4 ≤ u3 from ri_l (u := u4) (l' := l3) ee ed hn2 ee1 ed2) with hz28 | hz28
                           · rw [hz28]
                             refine ⟨[.int .i64 (-1 : Int)], rfl, rfl, by kernel_rfl, k28, ?_⟩
                             intro a29 g29 W29 r29 S29
                             exact rt S29 [.bool (if if decide ((0 : Int) > 0) then true else if decide ((0 : Int) ≤ 0) then decide ((0 : Int) ≤ 0) else false then if decide ((0 : Int) < 0) then true else if decide ((-1 : Int) ≤ 0) then decide ((-1 : Int) ≤ 0) else false else false)] (⟨rfl, r29.first⟩)
                           · rw [hz28]
                             refine ⟨[.int .i64 (0 : Int)], rfl, rfl, by kernel_rfl, k28, ?_⟩
                             intro a29 g29 W29 r29 S29
                             exact rt S29 [.bool (if if decide ((0 : Int) > 0) then true else if decide ((0 : Int) ≤ 0) then decide ((0 : Int) ≤ 0) else false then if decide ((0 : Int) < 0) then true else if decide ((-1 : Int) ≤ 0) then decide ((0 : Int) ≤ 0) else false else false)] (⟨rfl, r29.first⟩)
                         · replace c27 := ynk (b := decide ((-1 : Int) ≤ 0)) (by kernel_rfl) c27
                           simp at c27
                       · rw [hz27]
                         refine ⟨[.int .i64 (0 : Int)], rfl, rfl, by kernel_rfl, k27, ?_⟩
                         refine ⟨fun c27 => ?_, fun c27 => ?_⟩
                         · replace c27 := yvk (b := decide ((0 : Int) ≤ 0)) (by kernel_rfl) c27
                           intro W28 g28 r28 _
                           refine cgo (l := #[.agg #[.bool b8, .slice A8 n8 c8, .int .i64 x8], .agg #[.bool d7, .slice B7 m7 e7, .int .i64 y7]]) (by kernel_rfl) ?_
                           refine (dorder_q (hv.lat (r28.at_ 7 _ rfl)).lo.c (hu.lat (r28.at_ 6 _ rfl)).hi.c (by decide) (tb hT r28)).mono ?_
                           rintro _ V29 ⟨rfl, k29⟩
                           rcases cmp_two (show l4 ≤ u3 from ri_l (u := u4) (l' := l3) ee ed hn2 ee1 ed2) with hz29 | hz29
                           · rw [hz29]
                             refine ⟨[.int .i64 (-1 : Int)], rfl, rfl, by kernel_rfl, k29, ?_⟩
                             intro a29 g29 W29 r29 S29
                             exact rt S29 [.bool (if if decide ((0 : Int) > 0) then true else if decide ((0 : Int) ≤ 0) then decide ((0 : Int) ≤ 0) else false then if decide ((0 : Int) < 0) then true else if decide ((0 : Int) ≤ 0) then decide ((-1 : Int) ≤ 0) else false else false)] (⟨rfl, r29.first⟩)
                           · rw [hz29]
                             refine ⟨[.int .i64 (0 : Int)], rfl, rfl, by kernel_rfl, k29, ?_⟩
                             intro a29 g29 W29 r29 S29
                             exact rt S29 [.bool (if if decide ((0 : Int) > 0) then true else if decide ((0 : Int) ≤ 0) then decide ((0 : Int) ≤ 0) else false then if decide ((0 : Int) < 0) then true else if decide ((0 : Int) ≤ 0) then decide ((0 : Int) ≤ 0) else false else false)] (⟨rfl, r29.first⟩)
                         · replace c27 := ynk (b := decide ((0 : Int) ≤ 0)) (by kernel_rfl) c27
                           simp at c27
                     · replace c25 := ynk (b := decide ((0 : Int) < 0)) (by kernel_rfl) c25
                       simp at c25
                 · replace c23 := ynk (b := decide ((0 : Int) ≤ 0)) (by kernel_rfl) c23
                   simp at c23
             · replace c21 := ynk (b := decide ((0 : Int) > 0)) (by kernel_rfl) c21
               simp at c21
           · rw [hz]
             refine ⟨[.int .i64 (1 : Int)], rfl, rfl, by kernel_rfl, k11, ?_⟩
             intro a20 g20 W20 r20 S20
             refine wp_seq (rk Rwu3_33 [] Fwu3_32 Bwu3_25 S20 r20 ?_)
             refine ⟨fun c21 => ?_, fun c21 => ?_⟩
             · replace c21 := yvk (b := decide ((1 : Int) > 0)) (by kernel_rfl) c21
               simp at c21
             · replace c21 := ynk (b := decide ((1 : Int) > 0)) (by kernel_rfl) c21
               refine ⟨fun c22 => ?_, fun c22 => ?_⟩
               · exact (ykn (by kernel_rfl) c22).elim
               · refine ⟨fun c23 => ?_, fun c23 => ?_⟩
                 · replace c23 := yvk (b := decide ((1 : Int) < 0)) (by kernel_rfl) c23
                   intro W24 g24 r24 _
                   refine cgo (l := #[.agg #[.bool b6, .slice A6 n6 c6, .int .i64 x6], .agg #[.bool d5, .slice B5 m5 e5, .int .i64 y5]]) (by kernel_rfl) ?_
                   refine (dorder_q (hy.lat (r24.at_ 5 _ rfl)).lo.c (hx.lat (r24.at_ 4 _ rfl)).hi.c (by decide) (tb hT r24)).mono ?_
                   rintro _ V30 ⟨rfl, k30⟩
                   rcases cmp_two (show l2 ≤ u1 from ri_e (u := u2) (l' := l1) eb ea hn2 eb1 ea2) with hz30 | hz30
                   · rw [hz30]
                     refine ⟨[.int .i64 (-1 : Int)], rfl, rfl, by kernel_rfl, k30, ?_⟩
                     refine ⟨fun c25 => ?_, fun c25 => ?_⟩
                     · replace c25 := yvk (b := decide ((-1 : Int) ≤ 0)) (by kernel_rfl) c25
                       intro W26 g26 r26 _
                       refine cgo (l := #[.agg #[.bool b8, .slice A8 n8 c8, .int .i64 x8], .agg #[.bool d7, .slice B7 m7 e7, .int .i64 y7]]) (by kernel_rfl) ?_
                       refine (dorder_q (hv.lat (r26.at_ 7 _ rfl)).lo.c (hu.lat (r26.at_ 6 _ rfl)).hi.c (by decide) (tb hT r26)).mono ?_
                       rintro _ V31 ⟨rfl, k31⟩
                       rcases cmp_two (show l4 ≤ u3 from ri_l (u := u4) (l' := l3) ee ed hn2 ee1 ed2) with hz31 | hz31
                       · rw [hz31]
                         refine ⟨[.int .i64 (-1 : Int)], rfl, rfl, by kernel_rfl, k31, ?_⟩
                         intro a27 g27 W27 r27 S27
                         exact rt S27 [.bool (if if decide ((1 : Int) > 0) then true else if decide (0 ≤ 0) then decide (0 ≤ 0) else false then if decide ((1 : Int) < 0) then true else if decide ((-1 : Int) ≤ 0) then decide ((-1 : Int) ≤ 0) else false else false)] (⟨rfl, r27.first⟩)
                       · rw [hz31]
                         refine ⟨[.int .i64 (0 : Int)], rfl, rfl, by kernel_rfl, k31, ?_⟩
                         intro a27 g27 W27 r27 S27
                         exact rt S27 [.bool (if if decide ((1 : Int) > 0) then true else if decide (0 ≤ 0) then decide (0 ≤ 0) else false then if decide ((1 : Int) < 0) then true else if decide ((-1 : Int) ≤ 0) then decide ((0 : Int) ≤ 0) else false else false)] (⟨rfl, r27.first⟩)
                     · replace c25 := ynk (b := decide ((-1 : Int) ≤ 0)) (by kernel_rfl) c25
                       simp at c25
                   · rw [hz30]
                     refine ⟨[.int .i64 (0 : Int)], rfl, rfl, by kernel_rfl, k30, ?_⟩
                     refine ⟨fun c25 => ?_, fun c25 => ?_⟩
                     · replace c25 := yvk (b := decide ((0 : Int) ≤ 0)) (by kernel_rfl) c25
                       intro W26 g26 r26 _
                       refine cgo (l := #[.agg #[.bool b8, .slice A8 n8 c8, .int .i64 x8], .agg #[.bool d7, .slice B7 m7 e7, .int .i64 y7]]) (by kernel_rfl) ?_
                       refine (dorder_q (hv.lat (r26.at_ 7 _ rfl)).lo.c (hu.lat (r26.at_ 6 _ rfl)).hi.c (by decide) (tb hT r26)).mono ?_
                       rintro _ V32 ⟨rfl, k32⟩
                       rcases cmp_two (show l4 ≤ u3 from ri_l (u := u4) (l' := l3) ee ed hn2 ee1 ed2) with hz32 | hz32
                       · rw [hz32]
                         refine ⟨[.int .i64 (-1 : Int)], rfl, rfl, by kernel_rfl, k32, ?_⟩
                         intro a27 g27 W27 r27 S27
                         exact rt S27 [.bool (if if decide ((1 : Int) > 0) then true else if decide (0 ≤ 0) then decide (0 ≤ 0) else false then if decide ((1 : Int) < 0) then true else if decide ((0 : Int) ≤ 0) then decide ((-1 : Int) ≤ 0) else false else false)] (⟨rfl, r27.first⟩)
                       · rw [hz32]
                         refine ⟨[.int .i64 (0 : Int)], rfl, rfl, by kernel_rfl, k32, ?_⟩
                         intro a27 g27 W27 r27 S27
                         exact rt S27 [.bool (if if decide ((1 : Int) > 0) then true else if decide (0 ≤ 0) then decide (0 ≤ 0) else false then if decide ((1 : Int) < 0) then true else if decide ((0 : Int) ≤ 0) then decide ((0 : Int) ≤ 0) else false else false)] (⟨rfl, r27.first⟩)
                     · replace c25 := ynk (b := decide ((0 : Int) ≤ 0)) (by kernel_rfl) c25
                       simp at c25
                 · replace c23 := ynk (b := decide ((1 : Int) < 0)) (by kernel_rfl) c23
                   simp at c23
     · replace c7 := ynk (b := if !(decide (8 ≤ p ∧ p ≤ 4096)) then true else !(Fit m x)) (by kernel_rfl) c7
       intro a8 g8 W8 r8 S8
       refine wp_cond_split (t := if if !(decide (8 ≤ p ∧ p ≤ 4096)) then true else !(Fit m x) then true else !false) (S8.cnd (by kernel_rfl)) (fun q4 => ?_) (fun q4 => ?_)
       · refine wp_seq (rk Rwu3_9 [] Fwu3_8 Bwu3_2 S8 r8 ?_)
         intro a9 g9 W9 r9 S9
         exact wp_ret (then_ret (ret_ok S9 [.bool true] (by kernel_rfl) (⟨rfl, r9.first⟩)))
       · simp at q4
   · replace c5 := ynk (b := !(decide (8 ≤ p ∧ p ≤ 4096))) (by kernel_rfl) c5
     refine ⟨fun c6 => ?_, fun c6 => ?_⟩
     · replace c6 := yvk (b := if !(decide (8 ≤ p ∧ p ≤ 4096)) then true else !false) (by kernel_rfl) c6
       revert c6; cases decide (8 ≤ p ∧ p ≤ 4096) <;> intro h <;> cases h
     · replace c6 := ynk (b := if !(decide (8 ≤ p ∧ p ≤ 4096)) then true else !false) (by kernel_rfl) c6
       intro _ _ _ r7 S7
       refine wp_cond_split (t := if if !(decide (8 ≤ p ∧ p ≤ 4096)) then true else !false then true else !false) (S7.cnd (by kernel_rfl)) (fun q5 => ?_) (fun q5 => ?_)
       · refine wp_seq (rk Rwu3_9 [] Fwu3_8 Bwu3_2 S7 r7 ?_)
         intro a8 g8 W8 r8 S8
         exact wp_ret (then_ret (ret_ok S8 [.bool true] (by kernel_rfl) (⟨rfl, r8.first⟩)))
       · simp at q5
end Go.Proofs.YtkdicconchobfaaDoor
