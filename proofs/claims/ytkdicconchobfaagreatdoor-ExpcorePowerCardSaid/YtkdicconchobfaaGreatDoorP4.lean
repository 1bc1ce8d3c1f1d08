/- Part 4 of the library of this claim: what the program and the document compute, as contracts of their functions. -/
import Derived.Test.YtkdicconchobfaaGreatDoorP3
import Derived.Laws.Bits64b
import Derived.Deep.DeepCutAuto
import Derived.MapKept
import Derived.Carry
import Derived.KernelRfl
set_option maxRecDepth 100000
set_option maxHeartbeats 8000000
namespace Go.Proofs.YtkdicconchobfaaGreatDoor
open Go Go.RowKit Go.Proofs.YtkdicconchobfaaGreatDoorW.PrintWords Limb Exq
set_option linter.unusedVariables false
set_option linter.unusedSimpArgs false
def DL (w : World) (b S : Nat) (v : Value) (m : Nat) : Prop := ∃ A n c c' l', v = .slice A n c ∧ (limbs m).length = n ∧ n ≤ c ∧ l'.take n = limbs m ∧ kU.R 64 w b (fun k => k < S) (.slice A l'.length c') l'
theorem PN.dl {w : World} {b m : Nat} {v : Value} (h : PN w b v m) : DL w b w.heap.size v m := by
 obtain ⟨A, n, c, c', l', h1, h2, h3, h4, hr⟩ := h
 exact ⟨A, n, c, c', l', h1, h2, h3, h4, Kd.R_mono (Kd.R_bound hr) (fun k hk => hk.2.2.1)⟩
theorem DL.below {w w1 : World} {b S m : Nat} {v : Value} (h : DL w b S v m) (hb : BL w w1) : DL w1 b S v m := by
 obtain ⟨A, n, c, c', l', h1, h2, h3, h4, hr⟩ := h
 exact ⟨A, n, c, c', l', h1, h2, h3, h4, Kd.R_below hr hb⟩
theorem DL.grown {w w1 : World} {b S m g : Nat} {v : Value} (h : DL w b S v m) (hg : w.grownBy w1 (some g)) (hS : S ≤ g) : DL w1 b S v m := by
 obtain ⟨A, n, c, c', l', h1, h2, h3, h4, hr⟩ := h
 exact ⟨A, n, c, c', l', h1, h2, h3, h4, Kd.R_grown hr hg (fun k hk he => by cases he; omega)⟩
theorem DL.c {w : World} {b S m n c : Nat} {A : Option Addr} (h : DL w b S (.slice A n c) m) : kU.C w A n (limbs m) ∧ (limbs m).length = n ∧ n ≤ c := by
 obtain ⟨A', n', c0, c', l', he, h2, h3, h4, hr⟩ := h
 injection he with e1 e2 e3
 subst e1 e2 e3
 obtain ⟨A2, c2, he, _, hC⟩ := Kd.R_reads hr
 injection he with f1 f2 f3
 subst f1
 have hle : n ≤ l'.length := by have := congrArg List.length h4; rw [List.length_take, h2] at this; omega
 have := C_take hC n hle
 rw [h4] at this
 exact ⟨this, h2, h3⟩
theorem R_past {w w1 : World} {e b S g : Nat} {v : Value} {l : List Nat} (h : kU.R e w b (fun k => k < S) v l) (hg : w.grownBy w1 (some g)) (hS : S ≤ g) : kU.R e w1 b (fun k => k < S) v l := Kd.R_grown h hg (fun k hk he => by cases he; omega)
theorem R_ahead {w w1 : World} {e b g : Nat} {v : Value} {l : List Nat} (h : kU.R e w b (fun _ => True) v l) (hg : w.grownBy w1 (some g)) (hS : g < b) : kU.R e w1 b (fun _ => True) v l := by
 refine Kd.R_mono (Kd.R_grown (Kd.R_bound h) hg ?_) (fun _ _ => trivial)
 rintro k ⟨_, hk, _⟩ he
 cases he
 omega
theorem trim_c {w : World} {A : Option Addr} {n c m : Nat} (h : CN w (.slice A n c) m) (hm : bl m ≤ 4294967296) :
 Calls Tryz.prog 109 #[.slice A n c] w fun e w' => e = .returned (.slice A n n) ∧ BL w w' := by
 obtain ⟨A', n', c', he, h1, rfl, h3⟩ := h
 injection he with e1 e2 e3
 subst e1 e2 e3
 have hl := len_le (K := 67108864) hm
 refine (trim_any (limbs m) A c w h1 h3 (wf_limbs _) (by omega)).mono ?_
 rintro e w' ⟨rfl, k, rfl⟩
 rw [nv_limbs]
 exact ⟨rfl, pw_below_drewN yr _⟩
theorem CN.cut {w : World} {A : Option Addr} {n c m : Nat} (h : CN w (.slice A n c) m) : CN w (.slice A n n) m := by
 obtain ⟨A', n', c', he, h1, h2, h3⟩ := h
 injection he with e1 e2 e3
 subst e1 e2 e3
 exact ⟨A, n, n, rfl, h1, h2, Nat.le_refl _⟩
theorem CN.word {w : World} {A : Option Addr} {n c m : Nat} (h : CN w (.slice A n c) m) (hn : 0 < n) : ∃ ad, A = some ad ∧ ∀ i, i < n → w.cell? (ad.add i) = some (.int .u64 (wd (limbs m) i : Int)) := by
 obtain ⟨A', n', c', he, h1, h2, h3⟩ := h
 injection he with e1 e2 e3
 subst e1 e2 e3
 obtain ⟨ad, x, rfl, _, _⟩ := at_word h1 h2 0 hn
 refine ⟨ad, rfl, fun i hi => ?_⟩
 obtain ⟨ad', x, he, hx, hc⟩ := at_word h1 h2 i hi
 injection he with he
 subst he
 rw [wd_of hx]
 exact hc
theorem info_word1 : (Tryz.prog.info? 64).map (·.size) = some 1 := by kernel_rfl
theorem addr_zero (ad : Addr) : ad.add 0 = ad := by cases ad; simp [Addr.add]
theorem run_window (g L cap j h n : Nat) (hn : 0 < n) (hj : h = j + n) (hh : h ≤ cap) : ∀ W : World, (Instr.slice 22 (.slice (some ⟨g, 0, none⟩) L cap) (some (.int .i64 (j : Int))) (some (.int .i64 (h : Int))) none).run Tryz.prog W = .ok (.slice (some ⟨g, j, none⟩) n (cap - j)) W := by
 intro W
 have hu : Tryz.prog.underlying 22 = some (.slice (Tryz.prog.elem 22)) := by kernel_rfl
 rw [run_slice_lh W 22 (some ⟨g, 0, none⟩) L cap hu .i64 .i64 j h (by omega) (by omega) (by omega)]
 have hs : (sizeOf (Tryz.prog.elem 22)).run Tryz.prog W = .ok 1 W := by
  rw [show Tryz.prog.elem 22 = 64 by kernel_rfl]
  exact Tryz.sizeOf64 W
 rw [hs]
 show Result.ok (sliced (some ⟨g, 0, none⟩) ((j : Int)).toNat ((h : Int)).toNat cap 1) W = _
 rw [Int.toNat_natCast, Int.toNat_natCast]
 unfold sliced
 rw [if_neg (by omega), Option.map_some, Nat.mul_one, show h - j = n by omega]
 simp [Addr.add]
 omega
theorem dv_len {b : Nat} (h : 0 < b) : 2 ^ (64 * ((limbs b).length - 1)) ≤ b ∧ b < 2 ^ (64 * (limbs b).length) := by
 constructor
 · refine Classical.byContradiction fun hc => ?_
   have := limbs_len_le (n := b) (k := (limbs b).length - 1) (by omega)
   have hp : (limbs b).length ≠ 0 := fun q => by have := limbs_zero_len.1 q; omega
   omega
 · have := nv_lt (wf_limbs b)
   rwa [nv_limbs] at this
theorem dv_copy {l o0 : List Nat} {ns L : Nat} (h : l.length ≤ L) (hn : l.length = ns) (ho : o0 = l.take (min ns L) ++ (List.replicate L 0).drop (min ns L)) (hw : Wf l := by exact wf_limbs _) : o0.length = L ∧ Wf o0 ∧ nv o0 = nv l := by
 rw [Nat.min_eq_left (by omega), List.take_of_length_le (by omega), List.drop_replicate] at ho
 subst ho
 refine ⟨by rw [List.length_append, List.length_replicate]; omega, ?_, ?_⟩
 · intro x hx
   rcases List.mem_append.1 hx with q | q
   · exact hw x q
   · rw [(List.mem_replicate.1 q).2]; decide
 · rw [nv_append, nv_replicate, Nat.mul_zero, Nat.add_zero]
theorem dv_norm {b n n1 t k : Nat} (h0 : 0 < b) (hn : (limbs b).length = n) (hn1 : n = n1 + 1) (ht : wd (limbs b) n1 = t) (hk : k = 64 - bl t) : 0 < t ∧ t < 18446744073709551616 ∧ k ≤ 63 ∧ bl t ≤ 64 ∧ 2 ^ 63 * 2 ^ (64 * n1) ≤ b * 2 ^ k ∧ b * 2 ^ k < 2 ^ (64 * n) ∧ (limbs (b * 2 ^ k)).length = n := by
 obtain ⟨h1, h2⟩ := dv_len h0
 rw [hn] at h1 h2
 rw [hn1, Nat.add_sub_cancel] at h1
 rw [hn1, pw] at h2
 rw [wd_eq (wf_limbs _), nv_limbs] at ht
 have hM := Nat.two_pow_pos (64 * n1)
 have hq : b / 2 ^ (64 * n1) < 2 ^ 64 := (Nat.div_lt_iff_lt_mul hM).2 h2
 rw [Nat.mod_eq_of_lt hq] at ht
 have hq1 : 1 ≤ b / 2 ^ (64 * n1) := (Nat.le_div_iff_mul_le hM).2 (by omega)
 have hd := Nat.div_add_mod b (2 ^ (64 * n1))
 have hm := Nat.mod_lt b hM
 rw [ht] at hd hq hq1
 have hb1 := bl_lt t
 have hb2 := bl_le (n := t) (by omega)
 have hb3 : bl t ≤ 64 := bl_le_iff.2 hq
 have hb0 : 1 ≤ bl t := by
  rcases Nat.lt_or_ge 0 (bl t) with h | h
  · exact h
  · rw [Nat.le_zero.1 h] at hb1; omega
 have hp := Nat.two_pow_pos k
 have e1 : 2 ^ (bl t - 1) * 2 ^ k = 2 ^ 63 := by rw [← Nat.pow_add, hk]; congr 1; omega
 have e2 : 2 ^ bl t * 2 ^ k = 2 ^ 64 := by rw [← Nat.pow_add, hk]; congr 1; omega
 have lo : 2 ^ 63 * 2 ^ (64 * n1) ≤ b * 2 ^ k := by
  have z1 : 2 ^ (bl t - 1) * 2 ^ (64 * n1) ≤ b := Nat.le_trans (Nat.mul_le_mul_right _ hb2) (by rw [Nat.mul_comm]; omega)
  have z2 := Nat.mul_le_mul_right (2 ^ k) z1
  rwa [Nat.mul_right_comm, e1] at z2
 have hi : b * 2 ^ k < 2 ^ (64 * n) := by
  have z1 : b < 2 ^ bl t * 2 ^ (64 * n1) := by
   have z3 : (t + 1) * 2 ^ (64 * n1) ≤ 2 ^ bl t * 2 ^ (64 * n1) := Nat.mul_le_mul_right _ hb1
   rw [Nat.add_mul, Nat.one_mul, Nat.mul_comm t] at z3
   omega
  have z2 := Nat.mul_lt_mul_of_pos_right z1 hp
  rwa [Nat.mul_right_comm, e2, ← pw, ← hn1] at z2
 refine ⟨by omega, hq, by omega, hb3, lo, hi, ?_⟩
 have hD : 0 < b * 2 ^ k := Nat.mul_pos h0 hp
 obtain ⟨g1, g2⟩ := dv_len hD
 have u1 : (limbs (b * 2 ^ k)).length ≤ n := limbs_len_le hi
 have u2 : n ≤ (limbs (b * 2 ^ k)).length := by
  refine Classical.byContradiction fun hc => ?_
  have z1 : b * 2 ^ k < 2 ^ (64 * n1) := Nat.lt_of_lt_of_le g2 (Nat.pow_le_pow_right (by decide) (by omega))
  have z2 : 1 * 2 ^ (64 * n1) ≤ 2 ^ 63 * 2 ^ (64 * n1) := Nat.mul_le_mul_right _ (by decide)
  omega
 omega
theorem dv_start {a k na n n1 M D : Nat} {o : List Nat} (ha : a < 2 ^ (64 * na)) (hk : k ≤ 63) (ho : Wf o) (hv : nv o = a * 2 ^ k) (hn : n = n1 + 1) (hM : M + n1 = na) (hD : 2 ^ 63 * 2 ^ (64 * n1) ≤ D) : nv (o.drop M) < D := by
 rw [nv_drop ho, hv]
 refine (Nat.div_lt_iff_lt_mul (Nat.two_pow_pos _)).2 ?_
 have z1 := Nat.mul_le_mul_right (2 ^ (64 * M)) hD
 rw [Nat.mul_assoc, ← Nat.pow_add, show 64 * n1 + 64 * M = 64 * na by omega] at z1
 have z2 := Nat.mul_lt_mul_of_pos_right ha (Nat.two_pow_pos k)
 have z3 : 2 ^ (64 * na) * 2 ^ k ≤ 2 ^ (64 * na) * 2 ^ 63 := Nat.mul_le_mul_left _ (Nat.pow_le_pow_right (by decide) hk)
 rw [Nat.mul_comm (2 ^ 63)] at z1
 exact Nat.lt_of_lt_of_le z2 (Nat.le_trans z3 z1)
theorem dv_window {o : List Nat} {L n j D : Nat} (ho : Wf o) (hL : o.length = L) (hj : j + n + 1 ≤ L) (h : nv (o.drop (j + 1)) < D) (hD : D < 2 ^ (64 * n)) : sg o j (n + 1) = nv (o.drop j) ∧ sg o j (n + 1) < D * 18446744073709551616 := by
 have hx : o[j]? = some (wd o j) := by unfold wd; rw [List.getElem?_eq_getElem (by omega)]; rfl
 have e := drop_word hx
 have hw := wd_lt ho j
 have hlt : nv (o.drop j) < D * 18446744073709551616 := by
  have : (nv (o.drop (j + 1)) + 1) * 18446744073709551616 ≤ D * 18446744073709551616 := Nat.mul_le_mul_right _ h
  omega
 have e2 : sg o j (n + 1) = nv (o.drop j) := by
  unfold sg
  have hwf : Wf (o.drop j) := fun x hx => ho x (List.mem_of_mem_drop hx)
  rw [nv_take hwf]
  refine Nat.mod_eq_of_lt ?_
  rw [pw]
  have : (D + 1) * 18446744073709551616 ≤ 2 ^ (64 * n) * 18446744073709551616 := Nat.mul_le_mul_right _ hD
  have : 2 ^ 64 * 2 ^ (64 * n) = 2 ^ (64 * n) * 18446744073709551616 := Nat.mul_comm _ _
  omega
 exact ⟨e2, by rw [e2]; exact hlt⟩
theorem dv_step {o o' : List Nat} {L n j D a Q : Nat} (ho : Wf o) (ho' : Wf o') (hL : o.length = L) (hL' : o'.length = L) (hj : j + n + 1 ≤ L) (h : nv (o.drop (j + 1)) < D) (hD : D < 2 ^ (64 * n)) (hs : sg o' j (n + 1) = sg o j (n + 1) % D) (hf : ∀ m, m < j ∨ j + n < m → o'[m]? = o[m]?)
 (hi : nv o + Q * 2 ^ (64 * (j + 1)) * D = a) : nv (o'.drop j) < D ∧ nv o' + (sg o j (n + 1) / D + 18446744073709551616 * Q) * 2 ^ (64 * j) * D = a := by
 obtain ⟨e1, e2⟩ := dv_window ho hL hj h hD
 have hD0 : 0 < D := by omega
 have hX : sg o j (n + 1) < 2 ^ (64 * (n + 1)) := sg_lt ho _ _
 have t1 : o'.take j = o.take j := by
  apply List.ext_getElem?
  intro i
  rcases Nat.lt_or_ge i j with q | q
  · rw [List.getElem?_take_of_lt q, List.getElem?_take_of_lt q, hf i (.inl q)]
  · rw [List.getElem?_eq_none (by rw [List.length_take]; omega), List.getElem?_eq_none (by rw [List.length_take]; omega)]
 have t2 : o'.drop (j + (n + 1)) = o.drop (j + (n + 1)) := by
  apply List.ext_getElem?
  intro i
  rw [List.getElem?_drop, List.getElem?_drop, hf _ (.inr (by omega))]
 have s1 := nv_split (o.drop j) (n + 1)
 have s2 := nv_split (o'.drop j) (n + 1)
 rw [List.drop_drop] at s1 s2
 rw [t2] at s2
 have z0 : nv (o.drop (j + (n + 1))) = 0 := by
  have : nv ((o.drop j).take (n + 1)) = nv (o.drop j) := e1
  rw [this] at s1
  rcases Nat.eq_zero_or_pos (nv (o.drop (j + (n + 1)))) with q | q
  · exact q
  · have := Nat.mul_pos (Nat.two_pow_pos (64 * (n + 1))) q
    omega
 rw [z0, Nat.mul_zero, Nat.add_zero] at s2
 have s3 : nv (o'.drop j) = sg o j (n + 1) % D := s2.trans hs
 refine ⟨by rw [s3]; exact Nat.mod_lt _ hD0, ?_⟩
 have f1 := nv_split o j
 have f2 := nv_split o' j
 rw [t1, s3] at f2
 rw [← e1] at f1
 have hd := Nat.div_add_mod (sg o j (n + 1)) D
 rw [pw] at hi
 generalize sg o j (n + 1) / D = q at *
 generalize sg o j (n + 1) % D = r at *
 generalize sg o j (n + 1) = X at *
 generalize 2 ^ (64 * j) = B at *
 rw [f2, ← hi, f1, ← hd, Nat.add_mul, Nat.add_mul, Nat.mul_add]
 have g1 : q * B * D = B * (D * q) := by simp only [Nat.mul_comm, Nat.mul_left_comm]
 have g2 : 18446744073709551616 * Q * B * D = Q * (2 ^ 64 * B) * D := by rw [Nat.mul_comm 18446744073709551616 Q, Nat.mul_assoc Q]
 rw [g1, g2]
 omega
theorem div_any {u v : Value} {a b : Nat} {w : World} (h : CN w u a) (h' : CN w v b) (h0 : 0 < b) (ha : bl a ≤ 1073741824) (hb : bl b ≤ 1073741824) (hT : TB w) :
 Calls Tryz.prog 137 #[u, v] w fun en w' => ∃ q r, en = .returned (.tuple #[q, r]) ∧ PN w' w.heap.size q (a / b) ∧ PN w' w.heap.size r (a % b) ∧ BL w w' := by
 obtain ⟨A, na, ca, rfl⟩ := h.ex
 obtain ⟨B, nb, cb, rfl⟩ := h'.ex
 have HNA := yk (show (limbs a).length = na by obtain ⟨_, _, _, he, _, h2, _⟩ := h; injection he with e1 e2 e3; rw [h2, e2])
 have HNB := yk (show (limbs b).length = nb by obtain ⟨_, _, _, he, _, h2, _⟩ := h'; injection he with e1 e2 e3; rw [h2, e2])
 have la : na ≤ 67108864 := by rw [← HNA.out]; exact len_le (K := 67108864) (by omega)
 have lb : nb ≤ 67108864 := by rw [← HNB.out]; exact len_le (K := 67108864) (by omega)
 have nb0 : 0 < nb := Nat.pos_of_ne_zero (fun q => by have := limbs_zero_len.1 (HNB.out.trans q); omega)
 have QTa := yk (trim_c h (by omega))
 have QTb := yk (fun (m : World) (hm : BL w m) => trim_c (h'.below hm) (by omega))
 have CA := yk (fun (m : World) (hm : BL w m) => (h.below hm).cut)
 have CB := yk (fun (m : World) (hm : BL w m) => (h'.below hm).cut)
 have HBA := yk ha
 have HBB := yk hb
 have HB0 := yk h0
 have HT := yk hT
 have QC := yk (fun (m : World) (hm : BL w m) => cmp_n (CA.out m hm) (CB.out m hm) (by have := HBA.out; omega) (by have := HBB.out; omega))
 clear h h' h0 ha hb hT
 by_cases hab : a < b
 · have hc : cmpN a b = -1 := by unfold cmpN; rw [if_pos hab]
   rw [hc] at QC
   have HQ := yk (show a / b = 0 ∧ a % b = a from ⟨Nat.div_eq_of_lt hab, Nat.mod_eq_of_lt hab⟩)
   clear hc hab
   go_enter Tryz.func137, Tryz.ntmps137
   go_wp2_with (first
    | (go_at_call 109; refine (QTb.out _ HB1.out).mono ?_; rintro e w2 ⟨rfl, hb1⟩; have HB2 := yk (below_then HB1.out HB1.out.size hb1); have QC2 := yk (QC.out _ HB2.out); clear hb1)
    | (go_at_call 109; refine QTa.out.mono ?_; rintro e w1 ⟨rfl, hb1⟩; have HB1 := yk hb1; clear hb1)
    | (go_at_call 104; refine QC2.out.mono ?_; rintro e w3 ⟨rfl, hb1⟩; have HB3 := yk (below_then HB2.out HB2.out.size hb1); clear hb1)
    | ((with_reducible refine gate_builtin (b := .append) (xs := #[.const (.slice none 0 0), .tmp 23]) rfl ?_); at_builtin; go_must (refine Kd.R_append_row (fun n : Nat => Value.int .u64 (n : Int)) 0 (h1 := fun _ => rfl) (w0 := w) w.heap.size rfl (.const (.slice none 0 0)) (.tmp 23) 22 64 (.int .u64 0) 8 rfl Tryz.underlying22 info_word rfl (by decide) (.slice none 0 0) [] (limbs a) A na na (fun _ => True) rfl rfl (fun _ _ => trivial) (Kd.R_nil _ _ _ _ _) ?hC (HB3.out) HB3.out.size ?hl ?_; (case hC => obtain ⟨_, _, _, he, h1, _⟩ := CA.out _ HB3.out; injection he with e1 e2 e3; rw [e1, e2]; exact h1); (case hl => simp; omega); intro v4 w4 ho hb _ _; rw [List.nil_append] at ho; have HO := yk ho; have HB4 := yk hb; clear ho hb)))
   go_ret2
   exact ⟨_, _, rfl, by rw [HQ.out.1]; unfold PN; rw [limbs_zero]; exact PL.nil _ _, by rw [HQ.out.2]; exact PL.of_R HO.out, HB4.out⟩
 have hc0 : 0 ≤ cmpN a b := by unfold cmpN; rw [if_neg hab]; split <;> omega
 obtain ⟨cv, hcv⟩ : ∃ cv, cmpN a b = cv := ⟨_, rfl⟩
 rw [hcv] at QC hc0
 have HAB := yk (Nat.le_of_not_lt hab)
 clear hcv hab
 by_cases hn1 : nb = 1
 · subst hn1
   have hb64 : b < 18446744073709551616 := by have := (dv_len HB0.out).2; rw [HNB.out] at this; exact this
   have HWB := yk (fun (m : World) (hm : BL w m) => (by
    obtain ⟨ad, he, hc⟩ := (CB.out m hm).word (by decide)
    refine ⟨ad, he, ?_⟩
    have := hc 0 (by decide)
    rw [addr_zero, wd_eq (wf_limbs _), nv_limbs, Nat.mul_zero, Nat.pow_zero, Nat.div_one, Nat.mod_eq_of_lt (by exact hb64)] at this
    exact this : ∃ ad, B = some ad ∧ m.cell? ad = some (.int .u64 (b : Int))))
   have QS := yk (fun (m : World) (hm : BL w m) => (by
    obtain ⟨A', n', c', he, h1, h2, h3⟩ := CA.out m hm
    injection he with e1 e2 e3
    subst e1 e2 e3
    have := short_any (limbs a) A na na b h2 m h1 h3 (wf_limbs _) (by omega) HB0.out hb64
    rw [nv_limbs] at this
    exact this : Calls Tryz.prog 147 #[.slice A na na, .int .u64 (b : Int)] m fun e w' => ∃ v, e = .returned (.tuple #[v, .int .u64 ((a % b : Nat) : Int)]) ∧ PL w' m.heap.size v (limbs (a / b)) ∧ BL m w'))
   obtain ⟨bd, rfl, -⟩ := HWB.out w yr
   obtain ⟨rm, hrm⟩ : ∃ rm, a % b = rm := ⟨_, rfl⟩
   have lrm : rm < 18446744073709551616 := by rw [← hrm]; exact Nat.lt_trans (Nat.mod_lt _ HB0.out) hb64
   have QO := yk (fun (m : World) => of_n rm lrm m)
   rw [hrm] at QS
   have HRM := yk hrm
   clear hrm
   go_enter Tryz.func137, Tryz.ntmps137
   go_wp2_with (first
    | (go_at_call 109; refine (QTb.out _ HB1.out).mono ?_; rintro e w2 ⟨rfl, hb1⟩; have HB2 := yk (below_then HB1.out HB1.out.size hb1); have QC2 := yk (QC.out _ HB2.out); clear hb1)
    | (go_at_call 109; refine QTa.out.mono ?_; rintro e w1 ⟨rfl, hb1⟩; have HB1 := yk hb1; clear hb1)
    | (go_at_call 104; refine QC2.out.mono ?_; rintro e w3 ⟨rfl, hb1⟩; have HB3 := yk (below_then HB2.out HB2.out.size hb1); have QS3 := yk (QS.out _ HB3.out); obtain ⟨ad', he, hcell⟩ := HWB.out _ HB3.out; injection he with he; subst he; clear hb1)
    | (go_at_call 147; go_must (refine QS3.out.mono ?_; rintro e w4 ⟨v4, rfl, h4, hb1⟩; have HB4 := yk (below_then HB3.out HB3.out.size hb1); have H4 := yk (PL.lower h4 HB3.out.size); clear hb1 h4))
    | (go_at_call 110; go_must (refine (QO.out _).mono ?_; rintro e w5 ⟨v5, rfl, h5, hb1⟩; have HB5 := yk (below_then HB4.out HB4.out.size hb1); have H5 := yk (h5.lower HB4.out.size); replace H4 := yk (PL.below H4.out hb1); clear hb1 h5)))
   go_ret2
   exact ⟨_, _, rfl, H4.out, by rw [HRM.out]; exact H5.out, HB5.out⟩
 obtain ⟨n1, hn1'⟩ : ∃ n1, nb = n1 + 1 := ⟨nb - 1, by omega⟩
 obtain ⟨t, ht⟩ : ∃ t, wd (limbs b) n1 = t := ⟨_, rfl⟩
 obtain ⟨k, hk⟩ : ∃ k, k = 64 - bl t := ⟨_, rfl⟩
 obtain ⟨D, hD⟩ : ∃ D, D = b * 2 ^ k := ⟨_, rfl⟩
 obtain ⟨t0, t64, k63, bt, Dlo, Dhi, Dlen⟩ := dv_norm HB0.out HNB.out hn1' ht hk
 rw [← hD] at Dlo Dhi Dlen
 have en1 : (nb : Int) - 1 = (n1 : Int) := by omega
 have ln1 : n1 < nb := by omega
 have nb2 : 2 ≤ nb := by omega
 have eb1 : ((nb : Int) == 1) = false := by simp; omega
 have HWB := yk (fun (m : World) (hm : BL w m) => (by
  obtain ⟨ad, he, hc⟩ := (CB.out m hm).word nb0
  refine ⟨ad, he, ?_⟩
  have := hc n1 ln1
  rw [ht] at this
  exact this : ∃ ad, B = some ad ∧ m.cell? (ad.add n1) = some (.int .u64 (t : Int))))
 obtain ⟨bd, rfl, -⟩ := HWB.out w yr
 have QL := yk (fun (m : World) => (by
  have q := Tryz.bits_LeadingZeros64 (t : Int) m (by omega) (by omega)
  rw [Int.toNat_natCast, show (64 - (Lib.bitLen t : Int)) = (k : Int) by rw [bitLen_bl t64]; omega] at q
  exact q : Calls Tryz.prog 149 #[.int .u64 (t : Int)] m fun e w' => e = .returned (.int .i64 (k : Int)) ∧ w' = m))
 have QSb := yk (fun (m : World) (hm : BL w m) => (by
  have q := shl_n (k : Int) k rfl (CB.out m hm) (by have := HBB.out; omega) (by omega)
  rw [← hD] at q
  exact q : Calls Tryz.prog 131 #[.slice (some bd) nb nb, .int .i64 (k : Int)] m fun e w' => ∃ v, e = .returned v ∧ PN w' m.heap.size v D ∧ BL m w'))
 have QSa := yk (fun (m : World) (hm : BL w m) => shl_n (k : Int) k rfl (CA.out m hm) (by have := HBA.out; omega) (by omega))
 have HAN := yk (show a < 2 ^ (64 * na) by have := nv_lt (wf_limbs a); rwa [nv_limbs, HNA.out] at this)
 have hnab : nb ≤ na := by
  refine Classical.byContradiction fun hc => ?_
  have z1 := (dv_len HB0.out).1
  rw [HNB.out] at z1
  have z2 : (2 : Nat) ^ (64 * na) ≤ 2 ^ (64 * (nb - 1)) := Nat.pow_le_pow_right (by decide) (by omega)
  have z3 := HAN.out
  have z4 := HAB.out
  omega
 obtain ⟨L, hL⟩ : ∃ L, L = na + 1 := ⟨_, rfl⟩
 obtain ⟨M0, hM0⟩ : ∃ M0, M0 = na - nb := ⟨_, rfl⟩
 obtain ⟨M, hM⟩ : ∃ M, M = M0 + 1 := ⟨_, rfl⟩
 have eL : (na : Int) + 1 = (L : Int) := by omega
 have eM0 : (na : Int) - (nb : Int) = (M0 : Int) := by omega
 have eM : (M0 : Int) + 1 = (M : Int) := by omega
 have lL : L ≤ 67108865 := by omega
 have lM : M ≤ 67108865 := by omega
 have pL : 0 < L := by omega
 have pM : 0 < M := by omega
 have HL := yk hL
 have HMn := yk (show M + n1 = na ∧ M + nb = L by omega)
 have HD := yk hD
 have DLO := yk Dlo
 have DHI := yk Dhi
 have DLN := yk Dlen
 have HN1 := yk hn1'
 obtain ⟨a2, ha2⟩ : ∃ a2, a2 = a * 2 ^ k := ⟨_, rfl⟩
 rw [← ha2] at QSa
 have HA2 := yk ha2
 have HA2L := yk (show (limbs a2).length ≤ L by
  refine limbs_len_le ?_
  rw [ha2, HL.out, pw]
  have z1 := Nat.mul_lt_mul_of_pos_right HAN.out (Nat.two_pow_pos k)
  have z2 : 2 ^ (64 * na) * 2 ^ k ≤ 2 ^ (64 * na) * 2 ^ 64 := Nat.mul_le_mul_left _ (Nat.pow_le_pow_right (by decide) (by omega))
  rw [Nat.mul_comm (2 ^ 64)]
  exact Nat.lt_of_lt_of_le z1 z2)
 clear hn1 hn1' ht hk hD Dlo Dhi Dlen hL hM0 hM ha2 t0 bt
 go_enter Tryz.func137, Tryz.ntmps137
 go_wp2_with (first
  | (go_at_call 109; refine (QTb.out _ HB1.out).mono ?_; rintro e w2 ⟨rfl, hb1⟩; have HB2 := yk (below_then HB1.out HB1.out.size hb1); have QC2 := yk (QC.out _ HB2.out); clear hb1)
  | (go_at_call 109; refine QTa.out.mono ?_; rintro e w1 ⟨rfl, hb1⟩; have HB1 := yk hb1; clear hb1)
  | (go_at_call 104; refine QC2.out.mono ?_; rintro e w3 ⟨rfl, hb1⟩; have HB3 := yk (below_then HB2.out HB2.out.size hb1); obtain ⟨ad', he, hcell⟩ := HWB.out _ HB3.out; injection he with he; subst he; clear hb1)
  | (go_at_call 149; refine (QL.out _).mono ?_; rintro e w3' ⟨rfl, rfl⟩; clear hcell)
  | (go_at_call 131; refine (QSa.out _ HB5.out).mono ?_; rintro e w6 ⟨v6, rfl, h6, hb1⟩; replace HD9 := yk (HD9.out.below hb1); replace HO := yk (Kd.R_below HO.out hb1); have HB6 := yk (below_then HB5.out HB5.out.size hb1); obtain ⟨As, ns, cs, rfl⟩ := h6.ex; have H6 := yk h6.c; clear hb1 h6)
  | (go_at_call 131; refine (QSb.out _ HB3.out).mono ?_; rintro e w4 ⟨v4, rfl, h4, hb1⟩; obtain ⟨Ad, nd, cd, rfl⟩ := h4.ex; have hnd := h4.len; rw [DLN.out] at hnd; replace hnd := hnd.symm; subst hnd; have HD9 := yk (PN.dl (h4.lower HB3.out.size)); have HS4 := yk (Nat.le_refl w4.heap.size); have HB4 := yk (below_then HB3.out HB3.out.size hb1); clear hb1 h4)
  | ((with_reducible refine gate_dst (N := 52) rfl ?_); go_must (refine Kd.R_make kU (w0 := w4) w4.heap.size 64 rfl rfl 22 (.tmp 51) (.tmp 51) rfl (L : Int) ?mx ?my Tryz.underlying22 (.int .u64 0) 8 info_word rfl (by decide) (by decide) 0 (ok := fun _ => True) (okp := fun _ => False) ?mz (fun _ h => h.elim) trivial (by omega) ?ml yr (Nat.le_refl _) ?_; (case mx => rfl); (case my => rfl); (case mz => rfl); (case ml => omega); intro v_3 w_3 ho hb hg hown; obtain ⟨g, cap, rfl, hg1, hg2, hg3⟩ := Kd.R_form ho (by simp; omega); rw [show (List.replicate ((L : Int)).toNat (0 : Nat)).length = L by simp] at ho ⊢; have HO := yk (Kd.R_lower ho HB4.out.size); have HB5 := yk (below_then HB4.out HB4.out.size hb); have HG5 := yk hg1; replace HD9 := yk (HD9.out.below hb); clear ho hb hg hown hg1 hg2 hg3))
  | ((with_reducible refine gate_builtin (b := .copy) (xs := #[.tmp 53, .tmp 56]) rfl ?_); go_must (refine Kd.R_copy (enc := fun n : Nat => Value.int .u64 (n : Int)) (h1 := fun _ => rfl) 0 (w0 := w) w.heap.size rfl (.tmp 53) (.tmp 56) 22 22 64 rfl Tryz.underlying22 info_word1 (.slice (some ⟨g, 0, none⟩) L cap) _ (limbs a2) As ns cs (fun _ => True) rfl rfl HO.out ?hC HB6.out HB6.out.size ?_; (case hC => obtain ⟨_, _, _, he, h1, _⟩ := H6.out; injection he with e1 e2 e3; rw [e1, e2]; exact h1); intro w7 ho hb hg; rw [List.length_replicate, Int.toNat_natCast] at ho ⊢; obtain ⟨o0, ho0⟩ : ∃ o0, o0 = (limbs a2).take (min ns L) ++ (List.replicate L 0).drop (min ns L) := ⟨_, rfl⟩; rw [← ho0] at ho; have HO0 := yk (dv_copy HA2L.out (by obtain ⟨_, _, _, he, _, h2, _⟩ := H6.out; injection he with e1 e2 e3; rw [e2]; exact h2) ho0); have HB7 := yk hb; have HO7 := yk (Kd.R_mono (ok' := fun k => k < w7.heap.size) (Kd.R_bound ho) (fun k hk => hk.2.2.1)); have HGS := yk (show g < w7.heap.size by obtain ⟨g', cap', he, _, _, cs7, hc7⟩ := Kd.R_form ho (by rw [HO0.out.1]; exact pL); injection he with e1; injection e1 with e1; injection e1 with e1; rw [e1]; exact blk_lt hc7); replace HD9 := yk (HD9.out.grown (g := g) hg HG5.out); obtain ⟨mn, hmn⟩ : ∃ mn, min ns L = mn := ⟨_, rfl⟩; rw [hmn]; clear ho hb hg ho0 hmn))
  | ((with_reducible refine gate_dst (N := 64) rfl ?_); go_must (refine Kd.R_make kU (w0 := w7) w7.heap.size 64 rfl rfl 22 (.tmp 63) (.tmp 63) rfl (M : Int) ?mx ?my Tryz.underlying22 (.int .u64 0) 8 info_word rfl (by decide) (by decide) 0 (ok := fun _ => True) (okp := fun _ => False) ?mz (fun _ h => h.elim) trivial (by omega) ?ml yr (Nat.le_refl _) ?_; (case mx => rfl); (case my => rfl); (case mz => rfl); (case ml => omega); intro v_8 w8 ho hb hg hown; obtain ⟨g2, cap2, rfl, hg1, hg2, hg3⟩ := Kd.R_form ho (by simp; omega); rw [show (List.replicate ((M : Int)).toNat (0 : Nat)).length = M by simp] at ho ⊢; have HQ8 := yk ho; have HB8 := yk (below_then HB7.out HB7.out.size hb); have HG8 := yk hg1; replace HD9 := yk (HD9.out.below hb); replace HO7 := yk (Kd.R_below HO7.out hb); clear ho hb hg hown hg1 hg2 hg3)))
 go_loopw [12] (fun v12 wx => ∃ (m : Nat) (o qo : List Nat), v12 = .int .i64 ((m : Int) - 1) ∧ m ≤ M ∧ Aside0 (BL w wx) ∧ Aside0 (kU.R 64 wx w.heap.size (fun k => k < w7.heap.size) (.slice (some ⟨g, 0, none⟩) L cap) o) ∧ Aside0 (kU.R 64 wx w7.heap.size (fun _ => True) (.slice (some ⟨g2, 0, none⟩) M cap2) qo) ∧ Aside0 (DL wx w.heap.size w4.heap.size (.slice Ad nb cd) D) ∧ Aside0 (o.length = L ∧ Wf o ∧ qo.length = M ∧ Wf qo ∧ nv (o.drop m) < D ∧ nv o + nv (qo.drop m) * 2 ^ (64 * m) * D = a2)) (fun v12 _ => (intOf v12 + 1).toNat)
 case atStart => exact ⟨M, o0, _, by go_num, Nat.le_refl _, HB8, HO7, HQ8, HD9, ⟨HO0.out.1, HO0.out.2.1, by simp, Wf.replicate _, dv_start HAN.out k63 HO0.out.2.1 (by rw [HO0.out.2.2, nv_limbs, HA2.out]) HN1.out HMn.out.1 DLO.out, by rw [List.drop_eq_nil_of_le (by simp), HO0.out.2.2, nv_limbs]; simp [nv]⟩⟩
 case round =>
  obtain ⟨m, o, qo, rfl, hm, HBR, HOR, HQR, HDR, HIR⟩ := hrel
  by_cases hm0 : m = 0
  · subst hm0
    have HF := yk (show nv qo = a / b ∧ nv o / 2 ^ k = a % b by
     obtain ⟨_, _, _, _, h1, h2⟩ := HIR.out
     rw [List.drop_zero] at h1 h2
     rw [Nat.mul_zero, Nat.pow_zero, Nat.mul_one] at h2
     obtain ⟨s1, s2⟩ := Knu.shifted (N := a) (D := b) (s := k) HB0.out
     rw [← HA2.out, ← HD.out] at s1 s2
     have hDp : 0 < D := by omega
     rw [← s1, ← s2, ← h2, Nat.add_comm, Nat.mul_comm, Nat.mul_add_div hDp, Nat.div_eq_of_lt h1, Nat.add_zero, Nat.mul_add_mod, Nat.mod_eq_of_lt h1]
     exact ⟨rfl, rfl⟩)
    have QS := yk (by
     obtain ⟨hl, hcap, hC⟩ := Kd.R_reads' HOR.out
     have q := pshr_any o (some ⟨g, 0, none⟩) L cap k HIR.out.1 wr (by rw [HIR.out.1] at hC; exact hC) hcap HIR.out.2.1 (by omega) (by omega) (tab_below HT.out HBR.out)
     rw [HF.out.2] at q
     exact q : Calls Tryz.prog 133 #[.slice (some ⟨g, 0, none⟩) L cap, .int .i64 (k : Int)] wr fun e w' => ∃ v, e = .returned (.tuple #[v, .bool (nv o % 2 ^ k != 0)]) ∧ PL w' wr.heap.size v (limbs (a % b)) ∧ BL wr w')
    obtain ⟨bx, hbx⟩ : ∃ bx, (nv o % 2 ^ k != 0) = bx := ⟨_, rfl⟩
    rw [hbx] at QS
    clear hbx
    go_wp2_with (first
     | (go_at_call 133; go_must (refine QS.out.mono ?_; rintro e w9 ⟨v9, rfl, h9, hb1⟩; have H9 := yk (h9.lower HBR.out.size); have HB9 := yk (below_then HBR.out HBR.out.size hb1); have HQ9 := yk (trim_own (Kd.R_below HQR.out hb1) HIR.out.2.2.2.1 (by omega)); clear hb1 h9))
     | (go_at_call 109; go_must (refine HQ9.out.mono ?_; rintro e w10 ⟨v10, rfl, h10, nn, rfl⟩; rw [HF.out.1] at h10; have H10 := yk (h10.lower HB7.out.size); clear h10)))
    go_ret2
    exact ⟨_, _, rfl, H10.out, PL.below H9.out (pw_below_drewN yr _), pw_below_drewN HB9.out _⟩
  · obtain ⟨j, rfl⟩ : ∃ j, m = j + 1 := ⟨m - 1, by omega⟩
    clear hm0
    have hj : ((j + 1 : Nat) : Int) - 1 = (j : Int) := by omega
    rw [hj]
    have hjM : j < M := by omega
    obtain ⟨j1, hj1⟩ : ∃ j1, j1 = j + nb := ⟨_, rfl⟩
    obtain ⟨j2, hj2⟩ : ∃ j2, j2 = j1 + 1 := ⟨_, rfl⟩
    have ej1 : (j : Int) + (nb : Int) = (j1 : Int) := by omega
    have ej2 : (j1 : Int) + 1 = (j2 : Int) := by omega
    have lj : j1 + 1 ≤ L := by have := HMn.out; omega
    have hcapL : L ≤ cap := by have := (Kd.R_reads' HOR.out).2.1; have := HIR.out.1; omega
    have hsl := run_window g L cap j j2 (nb + 1) (by omega) (by omega) (by omega)
    have hj2c : j2 ≤ cap := by omega
    have hjj : j ≤ j2 := by omega
    obtain ⟨zw1, zw2⟩ := dv_window (n := nb) HIR.out.2.1 HIR.out.1 (by omega) HIR.out.2.2.2.2.1 DHI.out
    obtain ⟨qv, hqv⟩ : ∃ qv, qv = sg o j (nb + 1) / D := ⟨_, rfl⟩
    have qv64 : qv < 18446744073709551616 := by have := kn_great zw2; rw [← hqv] at this; omega
    have QST := yk (by
     have hc := HDR.out.c
     have q := step_any (j := j) (n := nb) (c' := cap - j) (cd := cd) HOR.out HIR.out.1 HIR.out.2.1 (by omega) (by omega) (by omega) (fun W hW => (HDR.out.grown hW HG5.out).c.1) hc.2.1 hc.2.2 (wf_limbs _) nb2 (by rw [nv_limbs]; exact zw2)
     rw [nv_limbs, ← hqv] at q
     exact q : Calls Tryz.prog 150 #[.slice (some ⟨g, j, none⟩) (nb + 1) (cap - j), .slice Ad nb cd] wr fun en w' => ∃ o', en = .returned (.int .u64 (qv : Int)) ∧ kU.R 64 w' w.heap.size (fun k => k < w7.heap.size) (.slice (some ⟨g, 0, none⟩) L cap) o' ∧ o'.length = L ∧ Wf o' ∧ sg o' j (nb + 1) = sg o j (nb + 1) % D ∧ (∀ m, m < j ∨ j + nb < m → o'[m]? = o[m]?) ∧ wr.grownBy w' (some g))
    have HLJ := yk (show j + nb + 1 ≤ L by omega)
    have HQV := yk hqv
    clear zw1 zw2 hqv hj1 hj2
    go_wp2_with (go_at_call 150; go_must (refine QST.out.mono ?_; rintro e w9 ⟨o', rfl, h9, hl9, hw9, hs9, hf9, hg9⟩; have HO9 := yk h9; have HP9 := yk (ya hl9 (ya hw9 (ya hs9 hf9))); have HQ9 := yk (R_ahead HQR.out hg9 HGS.out); have HD99 := yk (HDR.out.grown hg9 HG5.out); have HB9 := yk (HBR.out.grown hg9 HBR.out.size (fun k hk => by cases hk; exact Nat.le_trans HB4.out.size HG5.out)); obtain ⟨hw1, hw2, hput⟩ := put_word HQ9.out hjM; have HPUT := yk (hput qv); have HGP := yk (put_gr HQ9.out j qv); clear h9 hl9 hw9 hs9 hf9 hg9 hput))
    go_roundw
    case rel =>
     obtain ⟨l1, l2, l3, l4⟩ := HP9.out
     obtain ⟨t1, t2⟩ := dv_step HIR.out.2.1 l2 HIR.out.1 l1 HLJ.out HIR.out.2.2.2.2.1 DHI.out l3 l4 HIR.out.2.2.2.2.2
     rw [← HQV.out] at t2
     exact ⟨j, o', qo.set j qv, by go_num, by omega, ⟨HB9.out.setCell (Nat.le_trans HB7.out.size HG8.out) _⟩, ⟨R_past HO9.out HGP.out HG8.out⟩, HPUT, ⟨HD99.out.grown HGP.out (by have := HG8.out; have := HG5.out; have := HGS.out; omega)⟩, ⟨l1, l2, by simp [HIR.out.2.2.1], HIR.out.2.2.2.1.set qv64, t1, by rw [drop_set_word (by rw [HIR.out.2.2.1]; exact hjM)]; exact t2⟩⟩
    case measure => simp [intOf]
theorem div_n {u v : Value} {a b : Nat} {w : World} (h : CN w u a) (h' : CN w v b) (h0 : 0 < b) (ha : bl a ≤ 1073741824) (hb : bl b ≤ 1073741824) (hT : TB w) :
 Calls Tryz.prog 137 #[u, v] w fun en w' => ∃ q r, en = .returned (.tuple #[q, r]) ∧ PN w' w.heap.size q (a / b) ∧ PN w' w.heap.size r (a % b) ∧ BL w w' := by
 exact div_any h h' h0 ha hb hT
def Fn138_0 := [vb 0, vs 1, vb 2, vi 3, U, U, U, U, U, U, U, U, U, U, U, U, U, U, U, U]
def Fn138_1 := fs Fn138_0 [(8, ps 0 0)]
def Bn138_2 := [bb 25 o3]
def Rn138_3 : Rg := ⟨1, 4, 0, Fn138_0, Bn138_2, [pa 0 0], []⟩
def Fn138_4 := fs Fn138_1 [(1, vs 4), (9, vs 1), (10, vs 4)]
def Rn138_5 : Rg := ⟨2, 4, 1, Fn138_1, Bn138_2, [pv (vs 1) 0, pc (vs 4) 0 131 [vs 1, li 1] 1], [1]⟩
def Fn138_6 := fs Fn138_4 [(11, vb 2)]
def Rn138_7 : Rg := ⟨1, 5, 1, Fn138_4, Bn138_2, [pv (vb 2) 0], []⟩
def Fn138_8 := fs Fn138_6 [(1, vs 6), (12, vs 4), (13, vs 5), (14, vs 6)]
def Rn138_9 : Rg := ⟨3, 5, 1, Fn138_6, Bn138_2, [pv (vs 4) 0, pc (vs 5) 0 110 [lu 1] 1, pc (vs 6) 1 103 [vs 4, vs 5] 1], [1, 2]⟩
def Fn138_10 := fs Fn138_8 [(15, vb 0), (16, vs 6), (17, vi 3), (18, bo .sub (vi 3) (li 1)), (19, dg 7)]
def Rn138_11 : Rg := ⟨5, 7, 1, Fn138_8, Bn138_2, [pv (vb 0) 0, pv (vs 6) 0, pv (vi 3) 0, pv (bo .sub (vi 3) (li 1)) 0, pc (dg 7) 0 102 [vb 0, vs 6, bo .sub (vi 3) (li 1)] 3], [4]⟩
def Bn138_12 := [bb 25 (d3 7)]
def Fn138_13 := fs Fn138_6 [(15, vb 0), (16, vs 4), (17, vi 3), (18, bo .sub (vi 3) (li 1)), (19, dg 5)]
def Rn138_14 : Rg := ⟨5, 5, 1, Fn138_6, Bn138_2, [pv (vb 0) 0, pv (vs 4) 0, pv (vi 3) 0, pv (bo .sub (vi 3) (li 1)) 0, pc (dg 5) 0 102 [vb 0, vs 4, bo .sub (vi 3) (li 1)] 3], [4]⟩
def Bn138_15 := [bb 25 (d3 5)]
theorem sticky_q {v : Value} {m : Nat} {more : Bool} {x : Int} {w : World} (h : CN w v m) (hm : bl m ≤ 2147483648) (h1 : -536870912 ≤ x) (h2 : x ≤ 536870912) (hT : TB w) :
 Calls Tryz.prog 138 #[.bool false, v, .bool more, .int .i64 x] w fun en w' => ∃ v', en = .returned v' ∧ PDy w' w.heap.size v' ((2 * m + (if more = true then 1 else 0) : Nat) : Int) (x - 1) ∧ BL w w' := by
 obtain ⟨A0, n0, c0, rfl⟩ := h.ex
 have hw : IntKind.i64.wrap (x - 1) = x - 1 := i64_id (by omega) (by omega)
 have hbl : bl (m * 2 ^ 1 + 1) ≤ 4294967296 := by have := bl_mul (b := 2 ^ 1) hm (show bl (2 ^ 1) ≤ 2 by decide); have := bl_add (K := 2147483650) (a := m * 2 ^ 1) (b := 1) (by omega) (by decide); omega
 refine fn_enter (u := 64) (fn := Tryz.f138) Tryz.func138 rfl Fn138_0 [.bool false, .slice A0 n0 c0, .bool more, .int .i64 x] (by kernel_rfl) rfl (fun a0 S0 r0 => ?_)
 refine wp_seq (rk Rn138_3 [] Fn138_1 Bn138_2 S0 r0 ?_)
 intro _ _ _ r1 S1
 refine wp_seq (rk Rn138_5 [.mv (vs 4)] Fn138_4 Bn138_2 S1 r1 ?_)
 intro _ _ r2 _
 refine (shl_n _ 1 rfl (h.below r2.first) (by omega) (by decide)).mono ?_
 rintro _ V1 ⟨v, rfl, h1, k1⟩
 obtain ⟨A1, n1, c1, rfl⟩ := h1.ex
 replace h1 := h1.lower r2.fs
 refine ⟨[.slice A1 n1 c1], rfl, rfl, rfl, k1, ?_⟩
 intro _ _ _ r3 S3
 refine wp_seq ?_
 refine wp_seq (rk Rn138_7 [] Fn138_6 Bn138_2 S3 r3 ?_)
 intro _ _ _ r4 S4
 refine wp_cond_split (t := more) (S4.cnd (by kernel_rfl)) (fun q1 => ?_) (fun q1 => ?_)
 · refine rk Rn138_9 [.mv (vs 6)] Fn138_8 Bn138_2 S4 r4 ?_
   intro W5 g5 r5 _
   refine (of_n 1 (by decide) _).mono ?_
   rintro _ V2 ⟨v, rfl, h2, k2⟩
   obtain ⟨A2, n2, c2, rfl⟩ := h2.ex
   replace h2 := h2.lower r5.fs
   refine ⟨[.slice A2 n2 c2], rfl, rfl, rfl, k2, ?_⟩
   intro W6 g6 r6 _
   refine (add_n (h1.lat (r6.at_ 0 _ rfl)).c (h2.lat (r6.at_ 1 _ rfl)).c (by have := bl_mul (b := 2 ^ 1) hm (show bl (2 ^ 1) ≤ 2 by decide); omega) (by decide)).mono ?_
   rintro _ V3 ⟨v, rfl, h3, k3⟩
   obtain ⟨A3, n3, c3, rfl⟩ := h3.ex
   replace h3 := h3.lower r6.fs
   refine ⟨[.slice A3 n3 c3], rfl, rfl, rfl, k3, ?_⟩
   intro _ _ _ r7 S7
   refine wp_seq (rk Rn138_11 [.st 0 0 (d3 7)] Fn138_10 Bn138_12 S7 r7 ?_)
   intro W8 _ r8 _
   show Calls Tryz.prog 102 #[.bool false, .slice A3 n3 c3, .int .i64 (IntKind.i64.wrap (x - 1))] W8 _
   rw [hw]
   refine (form_n false (x - 1) (h3.lat (r8.at_ 2 _ rfl)).c hbl (by omega) (by omega) (tb hT r8)).mono ?_
   rintro _ V4 ⟨v, rfl, h4, k4⟩
   obtain ⟨b4, A4, n4, c4, x4, rfl⟩ := h4.ex
   replace h4 := h4.lower r8.fs
   refine ⟨[.bool b4, .slice A4 n4 c4, .int .i64 x4], rfl, rfl, rfl, k4, ?_⟩
   intro _ _ _ r9 S9
   exact rt S9 [.agg #[.bool b4, .slice A4 n4 c4, .int .i64 x4]] (⟨_, rfl, by rw [q1, if_pos rfl, show 2 * m + 1 = m * 2 ^ 1 + 1 by omega]; exact (h4.lat (r9.at_ 3 _ rfl)), r9.first⟩)
 · refine wp_skip ?_
   refine wp_seq (rk Rn138_14 [.st 0 0 (d3 5)] Fn138_13 Bn138_15 S4 r4 ?_)
   intro W5 g5 r5 _
   show Calls Tryz.prog 102 #[.bool false, .slice A1 n1 c1, .int .i64 (IntKind.i64.wrap (x - 1))] W5 _
   rw [hw]
   refine (form_n false (x - 1) (h1.lat (r5.at_ 0 _ rfl)).c (by have := bl_mul (b := 2 ^ 1) hm (show bl (2 ^ 1) ≤ 2 by decide); omega) (by omega) (by omega) (tb hT r5)).mono ?_
   rintro _ V5 ⟨v, rfl, h5, k5⟩
   obtain ⟨b5, A5, n5, c5, x5, rfl⟩ := h5.ex
   replace h5 := h5.lower r5.fs
   refine ⟨[.bool b5, .slice A5 n5 c5, .int .i64 x5], rfl, rfl, rfl, k5, ?_⟩
   intro _ g6 W6 r6 S6
   exact rt S6 [.agg #[.bool b5, .slice A5 n5 c5, .int .i64 x5]] (⟨_, rfl, by rw [q1, if_neg (by decide), show 2 * m + 0 = m * 2 ^ 1 by omega]; exact (h5.lat (r6.at_ 1 _ rfl)), r6.first⟩)
theorem over_down {Y : Rat} {q m p k : Nat} (hm : m = 2 * q + 1) (hb : bl m = p + k) (hk : 1 ≤ k) (hp : 1 ≤ p) (h1 : ((2 * q : Nat) : Rat) < Y) (h2 : Y < ((2 * q + 2 : Nat) : Rat)) : Dn Y ((m / 2 ^ k * 2 ^ k : Nat) : Rat) (ep p) ∧ Up Y (((m / 2 ^ k + 1) * 2 ^ k : Nat) : Rat) (ep p) := by
 obtain ⟨j, hj⟩ : ∃ j, k = j + 1 := ⟨k - 1, by omega⟩
 have hG : 2 ^ k = 2 * 2 ^ j := by rw [hj, Nat.pow_succ]; omega
 have hbig : 2 ^ (p + k - 1) ≤ 2 * q := by
  have := bl_le (n := m) (by omega)
  rw [hb] at this
  have e : 2 ^ (p + k - 1) = 2 * 2 ^ (p + k - 2) := by rw [show p + k - 1 = (p + k - 2) + 1 by omega, Nat.pow_succ]; omega
  omega
 have hY : ((2 ^ k : Nat) : Rat) ≤ Y * ep p := by
  have := cut_room (m := 2 * q) hp hbig
  have := Rat.mul_le_mul_of_nonneg_right (Rat.le_of_lt h1) (Rat.le_of_lt (ep_pos p))
  grind
 have hd := Nat.div_add_mod m (2 ^ k)
 have hr := Nat.mod_lt m (Nat.two_pow_pos k)
 have c1 : m / 2 ^ k * 2 ^ k ≤ 2 * q := by
  have e : m / 2 ^ k * 2 ^ k = 2 * (m / 2 ^ k * 2 ^ j) := by rw [hG]; ac_rfl
  have := Nat.div_mul_le_self m (2 ^ k)
  omega
 have c2 : 2 * q + 2 ≤ (m / 2 ^ k + 1) * 2 ^ k := by
  have e : (m / 2 ^ k + 1) * 2 ^ k = 2 * ((m / 2 ^ k + 1) * 2 ^ j) := by rw [hG]; ac_rfl
  have e2 : (m / 2 ^ k + 1) * 2 ^ k = m / 2 ^ k * 2 ^ k + 2 ^ k := by rw [Nat.add_mul, Nat.one_mul]
  rw [Nat.mul_comm] at hd
  omega
 have c3 : (m / 2 ^ k + 1) * 2 ^ k = m / 2 ^ k * 2 ^ k + 2 ^ k := by rw [Nat.add_mul, Nat.one_mul]
 have d1 := Rat.natCast_le_natCast.2 c1
 have d2 := Rat.natCast_le_natCast.2 c2
 rw [c3] at d2 ⊢
 rw [Rat.natCast_add (m / 2 ^ k * 2 ^ k)] at d2 ⊢
 generalize ((m / 2 ^ k * 2 ^ k : Nat) : Rat) = C at *
 generalize ((2 ^ k : Nat) : Rat) = G at *
 refine ⟨⟨?_, ?_⟩, ?_, ?_⟩ <;> grind
theorem over_pure {up : Bool} {a b k p : Nat} {E : Int} {c : Rat} (hb0 : 0 < b) (hp : 1 ≤ p) (hs : p + 2 + bl b ≤ bl (a * 2 ^ k)) (ha0 : 0 < a)
 (hc : CutOf up (Dv ((2 * (a * 2 ^ k / b) + (if decide (a * 2 ^ k % b ≠ 0) = true then 1 else 0) : Nat) : Int) (E - 1)) c (ep p))
 (hx : CutX up p (Dv ((2 * (a * 2 ^ k / b) + (if decide (a * 2 ^ k % b ≠ 0) = true then 1 else 0) : Nat) : Int) (E - 1)) c) :
 CutOf up ((a : Rat) * (b : Rat)⁻¹ * (2 : Rat) ^ (E + (k : Int))) c (ep p) := by
 have hB : (0 : Rat) < (b : Rat) := upos hb0
 have hBi : (b : Rat) * (b : Rat)⁻¹ = 1 := Rat.mul_inv_cancel _ (by grind)
 obtain ⟨A, hA⟩ : ∃ A, A = a * 2 ^ k := ⟨_, rfl⟩
 have hAr : (A : Rat) = (a : Rat) * (2 : Rat) ^ (k : Int) := by rw [hA, Rat.natCast_mul, two_w]
 have hX : (a : Rat) * (b : Rat)⁻¹ * (2 : Rat) ^ (E + (k : Int)) = (A : Rat) * (b : Rat)⁻¹ * (2 : Rat) ^ E := by
  rw [hAr, Int.add_comm E, Rat.zpow_add two_ne]; grind
 have hE : (2 : Rat) ^ E = 2 * (2 : Rat) ^ (E - 1) := by
  rw [show E = (E - 1) + 1 by omega, Rat.zpow_add two_ne, Rat.zpow_one, show E - 1 + 1 - 1 = E - 1 by omega]; grind
 rw [hX]
 rw [← hA] at hc hx hs
 have hd := Nat.div_add_mod A b
 have hr := Nat.mod_lt A hb0
 obtain ⟨q, hq⟩ : ∃ q, q = A / b := ⟨_, rfl⟩
 obtain ⟨r, hr'⟩ : ∃ r, r = A % b := ⟨_, rfl⟩
 rw [← hq, ← hr'] at hc hx hd
 rw [← hr'] at hr
 have hAe : (A : Rat) = (b : Rat) * (q : Rat) + (r : Rat) := by rw [← hd, Rat.natCast_add, Rat.natCast_mul]
 have hu : (0 : Rat) < (2 : Rat) ^ (E - 1) := Dv_pow_pos _
 by_cases h0 : r = 0
 · subst h0
   rw [if_neg (by simp), Nat.add_zero] at hc
   have e : Dv ((2 * q : Nat) : Int) (E - 1) = (A : Rat) * (b : Rat)⁻¹ * (2 : Rat) ^ E := by
    show ((2 * q : Nat) : Rat) * _ = _
    rw [hAe, hE, Rat.natCast_mul, show ((2 : Nat) : Rat) = 2 from rfl, show ((0 : Nat) : Rat) = 0 from rfl]
    grind
   rw [← e]; exact hc
 · rw [if_pos (by simpa using h0)] at hx
   have hq1 : p + 2 ≤ bl q := by
    refine Classical.byContradiction fun hn => ?_
    have h1 : q < 2 ^ (p + 1) := bl_le_iff.1 (by omega)
    have h2 := bl_lt b
    have h3 : A < 2 ^ (p + 1) * 2 ^ bl b := by
     have : A < (q + 1) * b := by rw [Nat.add_mul, Nat.one_mul, Nat.mul_comm]; omega
     exact Nat.lt_of_lt_of_le this (Nat.mul_le_mul h1 (Nat.le_of_lt h2))
    rw [← Nat.pow_add] at h3
    have := bl_le_iff.2 h3
    omega
   obtain ⟨m, hm⟩ : ∃ m, m = 2 * q + 1 := ⟨_, rfl⟩
   rw [← hm] at hx
   have hbm : p + 3 ≤ bl m := by
    refine Classical.byContradiction fun hn => ?_
    have h1 : m < 2 ^ (p + 2) := bl_le_iff.1 (by omega)
    have h2 : 2 ^ (p + 2) = 2 * 2 ^ (p + 1) := by rw [show p + 2 = (p + 1) + 1 by omega, Nat.pow_succ]; omega
    have : bl q ≤ p + 1 := bl_le_iff.2 (by omega)
    omega
   obtain ⟨k', hk'⟩ : ∃ k', bl m = p + k' := ⟨bl m - p, by omega⟩
   have hce := hx m (E - 1) k' rfl (by omega) hk' (by omega)
   have hAB : (A : Rat) * (b : Rat)⁻¹ * (b : Rat) = (A : Rat) := by rw [Rat.mul_assoc, Rat.mul_comm ((b : Rat)⁻¹), hBi, Rat.mul_one]
   have hY : (A : Rat) * (b : Rat)⁻¹ * (2 : Rat) ^ E = (2 * ((A : Rat) * (b : Rat)⁻¹)) * (2 : Rat) ^ (E - 1) := by rw [hE]; grind
   have y1 : ((2 * q : Nat) : Rat) < 2 * ((A : Rat) * (b : Rat)⁻¹) := by
    have : (0 : Rat) < (r : Rat) := upos (by omega)
    have : (q : Rat) < (A : Rat) * (b : Rat)⁻¹ := by
     refine Rat.lt_of_mul_lt_mul_right ?_ (Rat.le_of_lt hB)
     rw [hAB, hAe, Rat.mul_comm]
     clear hX hc hx hAr hu; grind
    rw [Rat.natCast_mul, show ((2 : Nat) : Rat) = 2 from rfl]; grind
   have y2 : 2 * ((A : Rat) * (b : Rat)⁻¹) < ((2 * q + 2 : Nat) : Rat) := by
    have : (r : Rat) < (b : Rat) := Rat.natCast_lt_natCast.2 hr
    have : (A : Rat) * (b : Rat)⁻¹ < (q : Rat) + 1 := by
     refine Rat.lt_of_mul_lt_mul_right ?_ (Rat.le_of_lt hB)
     rw [hAB, hAe]
     clear hX hc hx hAr hu; grind
    rw [Rat.natCast_add, Rat.natCast_mul, show ((2 : Nat) : Rat) = 2 from rfl]; grind
   obtain ⟨o1, o2⟩ := over_down hm hk' (by omega) hp y1 y2
   have hxp : 0 < (A : Rat) * (b : Rat)⁻¹ * (2 : Rat) ^ E := by
    rw [hY]
    refine Rat.mul_pos ?_ hu
    have : (0 : Rat) ≤ ((2 * q : Nat) : Rat) := Rat.natCast_nonneg
    grind
   have hcv : ∀ j : Nat, Dv ((j : Nat) : Int) (E - 1 + (k' : Int)) = ((j * 2 ^ k' : Nat) : Rat) * (2 : Rat) ^ (E - 1) := by
    intro j
    show (j : Rat) * _ = _
    rw [Rat.zpow_add two_ne, two_w, Rat.natCast_mul]; grind
   refine ⟨fun _ => ?_, fun h => absurd h (by grind)⟩
   rw [hce, hcv, hY]
   cases up
   · simp only [Bool.false_eq_true, if_false, Nat.add_zero]; exact o1.scale (Rat.le_of_lt hu)
   · simp only [if_true]; exact o2.scale (Rat.le_of_lt hu)
def Fn113_0 := [dg 0, dg 3, vi 6, vb 7, U, U, U, U, U, U, U, U, U, U, U, U, U, U, U, U, U, U, U, U, U, U, U, U, U, U, U, U, U, U, U, U, U, U, U, U, U, U, U, U, U, U, U, U, U, U, U, U, U, U, U, U, U, U, U, U]
def Fn113_1 := fs Fn113_0 [(4, ps 0 0), (5, ps 1 0), (8, ps 2 0)]
def Bn113_2 := [bb 25 (d3 0), bb 25 (d3 3), bb 25 o3]
def Rn113_3 : Rg := ⟨3, 8, 0, Fn113_0, Bn113_2, [pa 0 0, pa 1 0, pa 2 0], []⟩
def Fn113_4 := fs Fn113_1 [(12, dg 0), (13, dg 8), (14, dg 3), (15, dg 11)]
def Rn113_5 : Rg := ⟨4, 8, 3, Fn113_1, Bn113_2, [pl (dg 0) 0 0 0, pc (dg 8) 0 66 [dg 0] 3, pl (dg 3) 0 1 0, pc (dg 11) 1 66 [dg 3] 3], [1, 3]⟩
def Bn113_6 := [bb 25 (d3 8), bb 25 (d3 11), bb 25 o3]
def Fn113_7 := fs Fn113_4 [(16, dg 8), (17, vb 14)]
def Rn113_8 : Rg := ⟨2, 14, 3, Fn113_4, Bn113_6, [pl (dg 8) 0 0 0, pc (vb 14) 0 79 [dg 8] 1], [1]⟩
def Fn113_9 := fs Fn113_7 [(9, f2 mxF (bo .sub (bo .add (bo .add (vi 6) (li 2)) (vi 15)) (vi 16)) (li 0)), (19, vi 6), (20, bo .add (vi 6) (li 2)), (21, ps 1 1), (22, vs 12), (23, vi 15), (24, bo .add (bo .add (vi 6) (li 2)) (vi 15)), (25, ps 0 1), (26, vs 9), (27, vi 16), (28, bo .sub (bo .add (bo .add (vi 6) (li 2)) (vi 15)) (vi 16)), (29, f2 mxF (bo .sub (bo .add (bo .add (vi 6) (li 2)) (vi 15)) (vi 16)) (li 0))]
def Rn113_10 : Rg := ⟨12, 15, 3, Fn113_7, Bn113_6, [pv (vi 6) 0, pv (bo .add (vi 6) (li 2)) 0, pv (ps 1 1) 0, pl (vs 12) 0 1 1, pc (vi 15) 0 116 [vs 12] 1, pv (bo .add (bo .add (vi 6) (li 2)) (vi 15)) 1, pv (ps 0 1) 0, pl (vs 9) 0 0 1, pc (vi 16) 1 116 [vs 9] 1, pv (bo .sub (bo .add (bo .add (vi 6) (li 2)) (vi 15)) (vi 16)) 2, pv (f2 mxF (bo .sub (bo .add (bo .add (vi 6) (li 2)) (vi 15)) (vi 16)) (li 0)) 2, pv (f2 mxF (bo .sub (bo .add (bo .add (vi 6) (li 2)) (vi 15)) (vi 16)) (li 0)) 2], [4, 8]⟩
def Fn113_11 := fs Fn113_9 [(10, vs 18), (11, vs 19), (30, tu [vs 18, vs 19]), (31, ps 0 1), (32, vs 9), (33, f2 mxF (bo .sub (bo .add (bo .add (vi 6) (li 2)) (vi 15)) (vi 16)) (li 0)), (34, vs 17), (35, ps 1 1), (36, vs 12), (37, tu [vs 18, vs 19]), (38, vs 18), (39, vs 19)]
def Rn113_12 : Rg := ⟨12, 17, 3, Fn113_9, Bn113_6, [pv (ps 0 1) 0, pl (vs 9) 0 0 1, pv (f2 mxF (bo .sub (bo .add (bo .add (vi 6) (li 2)) (vi 15)) (vi 16)) (li 0)) 0, pc (vs 17) 0 131 [vs 9, f2 mxF (bo .sub (bo .add (bo .add (vi 6) (li 2)) (vi 15)) (vi 16)) (li 0)] 1, pv (ps 1 1) 0, pl (vs 12) 0 1 1, pc (tu [vs 18, vs 19]) 1 137 [vs 17, vs 12] 2, pv (tu [vs 18, vs 19]) 2, pv (vs 18) 2, pv (vs 19) 2, pv (vs 18) 2, pv (vs 19) 2], [3, 6]⟩
def Fn113_13 := fs Fn113_11 [(40, ps 0 0), (41, vb 8), (42, ps 1 0), (43, vb 11), (44, bo .neq (vb 8) (vb 11)), (45, vs 18), (46, vs 19), (47, f1 lnF (vs 19)), (48, bo .gtr (f1 lnF (vs 19)) (li 0)), (49, ps 0 2), (50, vi 10), (51, ps 1 2), (52, vi 13), (53, bo .sub (vi 10) (vi 13)), (54, f2 mxF (bo .sub (bo .add (bo .add (vi 6) (li 2)) (vi 15)) (vi 16)) (li 0)), (55, bo .sub (bo .sub (vi 10) (vi 13)) (f2 mxF (bo .sub (bo .add (bo .add (vi 6) (li 2)) (vi 15)) (vi 16)) (li 0))), (56, dg 20), (57, vi 6), (58, vb 7), (59, dg 23)]
def Rn113_14 : Rg := ⟨20, 20, 3, Fn113_11, Bn113_6, [pv (ps 0 0) 0, pl (vb 8) 0 0 0, pv (ps 1 0) 0, pl (vb 11) 0 1 0, pv (bo .neq (vb 8) (vb 11)) 0, pv (vs 18) 0, pv (vs 19) 0, pv (f1 lnF (vs 19)) 0, pv (bo .gtr (f1 lnF (vs 19)) (li 0)) 0, pv (ps 0 2) 0, pl (vi 10) 0 0 2, pv (ps 1 2) 0, pl (vi 13) 0 1 2, pv (bo .sub (vi 10) (vi 13)) 0, pv (f2 mxF (bo .sub (bo .add (bo .add (vi 6) (li 2)) (vi 15)) (vi 16)) (li 0)) 0, pv (bo .sub (bo .sub (vi 10) (vi 13)) (f2 mxF (bo .sub (bo .add (bo .add (vi 6) (li 2)) (vi 15)) (vi 16)) (li 0))) 0, pc (dg 20) 0 138 [bo .neq (vb 8) (vb 11), vs 18, bo .gtr (f1 lnF (vs 19)) (li 0), bo .sub (bo .sub (vi 10) (vi 13)) (f2 mxF (bo .sub (bo .add (bo .add (vi 6) (li 2)) (vi 15)) (vi 16)) (li 0))] 3, pv (vi 6) 0, pv (vb 7) 0, pc (dg 23) 1 111 [dg 20, vi 6, vb 7] 3], [16, 19]⟩
def Bn113_15 := [bb 25 (d3 8), bb 25 (d3 11), bb 25 (d3 23)]
theorem over_k {p a b : Nat} (hp : p ≤ 67108864) (ha : a ≤ 67108864) (hb : b ≤ 67108864) : ∃ k : Nat, (if 0 > IntKind.i64.wrap (IntKind.i64.wrap (IntKind.i64.wrap ((p : Int) + 2) + (b : Int)) - (a : Int)) then 0 else IntKind.i64.wrap (IntKind.i64.wrap (IntKind.i64.wrap ((p : Int) + 2) + (b : Int)) - (a : Int))) = (k : Int) ∧ k ≤ p + 2 + b ∧ (0 < a → p + 2 + b ≤ a + k) := by
 have e : IntKind.i64.wrap (IntKind.i64.wrap (IntKind.i64.wrap ((p : Int) + 2) + (b : Int)) - (a : Int)) = (p : Int) + 2 + b - a := by
  rw [i64_id (x := (p : Int) + 2) (by omega) (by omega), i64_id (x := (p : Int) + 2 + b) (by omega) (by omega), i64_id (by omega) (by omega)]
 rw [e]
 refine ⟨((p : Int) + 2 + b - a).toNat, ?_, by omega, by omega⟩
 split <;> omega
theorem bl_pow_le (k : Nat) : bl (2 ^ k) ≤ k + 1 := bl_le_iff.2 (Nat.pow_lt_pow_right (by decide) (by omega))
theorem len_pos {m : Nat} : decide ((((limbs m).length : Nat) : Int) > 0) = decide (m ≠ 0) := by
 by_cases h : m = 0
 · subst h; simp [limbs]
 · have : (limbs m).length ≠ 0 := fun q => h (limbs_zero_len.1 q)
   rw [decide_eq_true (by omega), decide_eq_true h]
theorem over_bd {m B : Nat} {s : Bool} {E : Int} (h1 : bl m + 2 ≤ B) (h2 : -(B : Int) ≤ E) (h3 : E ≤ (B : Int)) : Bd B (((2 * m + (if s = true then 1 else 0) : Nat) : Int)) E := by
 refine ⟨?_, h2, h3⟩
 rw [Int.natAbs_natCast, ← bl_le_iff]
 have := bl_add (K := bl m + 1) (a := 2 * m) (b := if s = true then 1 else 0) (by have := bl_mul (a := 2) (b := m) (K := 2) (by decide) (Nat.le_refl _); rw [bl_le_iff] at *; have := bl_lt m; rw [Nat.pow_succ]; omega) (by cases s <;> simp <;> first | exact Nat.le_trans (by decide : bl 1 ≤ 1) (by omega) | exact Nat.zero_le _)
 omega
theorem over_val {z e y f : Int} (hz : 0 < z) (hy : 0 < y) : Dv z e * (Dv y f)⁻¹ = (cman z : Rat) * (cman y : Rat)⁻¹ * (2 : Rat) ^ (cexp z e - cexp y f) := by
 have hnz : cneg z = false := by unfold cneg; exact decide_eq_false (by omega)
 have hny : cneg y = false := by unfold cneg; exact decide_eq_false (by omega)
 rw [Dv_form z e, Dv_form y f, hnz, hny]
 show (cman z : Rat) * (2 : Rat) ^ cexp z e * ((cman y : Rat) * (2 : Rat) ^ cexp y f)⁻¹ = _
 rw [Rat.inv_mul_rev, Rat.mul_comm ((2 : Rat) ^ cexp y f)⁻¹, ← Rat.zpow_neg, show cexp z e - cexp y f = cexp z e + -(cexp y f) by omega, Rat.zpow_add two_ne]
 grind
theorem over_fin {up : Bool} {a b k p : Nat} {D : Int} {c : Rat} (hb0 : 0 < b) (hp : 1 ≤ p) (hk : p + 2 + bl b ≤ bl a + k) (ha0 : 0 < a)
 (hc : CutOf up (Dv ((2 * (a * 2 ^ k / b) + (if decide (a * 2 ^ k % b ≠ 0) = true then 1 else 0) : Nat) : Int) (D - (k : Int) - 1)) c (ep p))
 (hx : CutX up p (Dv ((2 * (a * 2 ^ k / b) + (if decide (a * 2 ^ k % b ≠ 0) = true then 1 else 0) : Nat) : Int) (D - (k : Int) - 1)) c) :
 CutOf up ((a : Rat) * (b : Rat)⁻¹ * (2 : Rat) ^ D) c (ep p) := by
 have := over_pure hb0 hp (by rw [bl_mul_pow (by omega)]; exact hk) ha0 hc hx
 rw [show D - (k : Int) + (k : Int) = D by omega] at this
 exact this
theorem over_q {u v : Value} {x y : Rat} {N M p : Nat} {up : Bool} {w : World} (h : CQ w u x N) (h' : CQ w v y M) (hx : 0 < x) (hy : 0 < y) (hN : N + M ≤ 1000000) (hp : 1 ≤ p) (hp2 : p ≤ 1000000) (hT : TB w) :
 Calls Tryz.prog 113 #[u, v, .int .i64 (p : Int), .bool up] w fun en w' => ∃ v' c, en = .returned v' ∧ PQ w' w.heap.size v' c (3 * (N + M) + 2 * p + 201) ∧ CutOf up (x * y⁻¹) c (ep p) ∧ Short p c ∧ BL w w' := by
 obtain ⟨z, e, h, rfl, hB⟩ := h
 obtain ⟨y, f, h', rfl, hB'⟩ := h'
 obtain ⟨b0, A0, n0, c0, x0, rfl⟩ := h.ex
 obtain ⟨b9, A9, n9, c9, x9, rfl⟩ := h'.ex
 have l := bd_len hB; have lo := bd_lo hB; have hi := bd_hi hB
 have l' := bd_len hB'; have lo' := bd_lo hB'; have hi' := bd_hi hB'
 have hbl : bl (cman z) ≤ N := bl_le_iff.2 (bd_man hB)
 have hbl' : bl (cman y) ≤ M := bl_le_iff.2 (bd_man hB')
 have hz := Dv_pos.1 hx; have hy := Dv_pos.1 hy
 have hmz : 0 < cman z := Nat.pos_of_ne_zero fun h => by have := cman_eq_zero.1 h; omega
 have hmy : 0 < cman y := Nat.pos_of_ne_zero fun h => by have := cman_eq_zero.1 h; omega
 have hnz : cneg z = false := by unfold cneg; exact decide_eq_false (by omega)
 have hny : cneg y = false := by unfold cneg; exact decide_eq_false (by omega)
 obtain ⟨k, hk, hk2, hk3⟩ := over_k (p := p) (a := bl (cman z)) (b := bl (cman y)) (by omega) (by omega) (by omega)
 have hz2 : z ≠ 0 := by omega
 refine fn_enter (u := 64) (fn := Tryz.f113) Tryz.func113 rfl Fn113_0 [.bool b0, .slice A0 n0 c0, .int .i64 x0, .bool b9, .slice A9 n9 c9, .int .i64 x9, .int .i64 (p : Int), .bool up] (by kernel_rfl) rfl (fun a0 S0 r0 => ?_)
 refine wp_seq (rk Rn113_3 [] Fn113_1 Bn113_2 S0 r0 ?_)
 intro _ _ _ r1 S1
 refine wp_seq (rk Rn113_5 [.st 0 0 (d3 8), .st 1 0 (d3 11)] Fn113_4 Bn113_6 S1 r1 ?_)
 intro _ _ r2 _
 refine (pone_dy _ z e _ (h.below r2.first) (by omega) (by omega) (by omega) (tb hT r2)).mono ?_
 rintro _ V1 ⟨v, rfl, h1, k1⟩
 obtain ⟨b1, A1, n1, c1, x1, rfl⟩ := h1.ex
 replace h1 := h1.lower r2.fs
 refine ⟨[.bool b1, .slice A1 n1 c1, .int .i64 x1], rfl, rfl, rfl, k1, ?_⟩
 obtain ⟨hb1, hx1, p1⟩ := h1.cells
 intro _ _ r3 _
 refine (pone_dy _ y f _ (h'.below r3.first) (by omega) (by omega) (by omega) (tb hT r3)).mono ?_
 rintro _ V2 ⟨v, rfl, h2, k2⟩
 obtain ⟨b2, A2, n2, c2, x2, rfl⟩ := h2.ex
 replace h2 := h2.lower r3.fs
 refine ⟨[.bool b2, .slice A2 n2 c2, .int .i64 x2], rfl, rfl, rfl, k2, ?_⟩
 obtain ⟨hb2, hx2, p2⟩ := h2.cells
 intro _ _ _ r4 S4
 refine wp_seq ?_
 refine wp_seq (rk Rn113_8 [] Fn113_7 Bn113_6 S4 r4 ?_)
 intro _ _ r5 _
 refine (pzero_dy _ z e _ (h1.lat (r5.at_ 0 _ rfl)).c (by omega)).mono ?_
 rintro _ V3 ⟨rfl, k3⟩
 refine ⟨[.bool (decide (z = 0))], rfl, rfl, rfl, k3, ?_⟩
 intro _ _ _ r6 S6
 refine wp_cond_split (t := (decide (z = 0))) (S6.cnd (by kernel_rfl)) (fun q1 => ?_) (fun q1 => ?_)
 · exact absurd (of_decide_eq_true q1) hz2
 · refine wp_skip ?_
   refine wp_seq (rk Rn113_10 [] Fn113_9 Bn113_6 S6 r6 ?_)
   intro _ g7 r7 _
   refine (len_n (p2.lat (r7.at_ 1 _ rfl)).c (by omega)).mono ?_
   rintro _ V4 ⟨rfl, k4⟩
   refine ⟨[.int .i64 (bl (cman y) : Int)], rfl, rfl, rfl, k4, ?_⟩
   intro _ _ r8 _
   refine (len_n (p1.lat (r8.at_ 0 _ rfl)).c (by omega)).mono ?_
   rintro _ V5 ⟨rfl, k5⟩
   refine ⟨[.int .i64 (bl (cman z) : Int)], rfl, rfl, rfl, k5, ?_⟩
   intro _ _ _ r9 S9
   refine wp_seq (rk Rn113_12 [] Fn113_11 Bn113_6 S9 r9 ?_)
   intro W10 _ r10 _
   show Calls Tryz.prog 131 #[.slice A1 n1 c1, .int .i64 (if 0 > IntKind.i64.wrap ((IntKind.i64.wrap ((IntKind.i64.wrap ((p : Int) + 2)) + (bl (cman y) : Int))) - (bl (cman z) : Int)) then 0 else IntKind.i64.wrap ((IntKind.i64.wrap ((IntKind.i64.wrap ((p : Int) + 2)) + (bl (cman y) : Int))) - (bl (cman z) : Int)))] W10 _
   refine (shl_n _ k hk (p1.lat (r10.at_ 0 _ rfl)).c (by omega) (by omega)).mono ?_
   rintro _ V6 ⟨v, rfl, h6, k6⟩
   obtain ⟨A6, n6, c6, rfl⟩ := h6.ex
   replace h6 := h6.lower r10.fs
   refine ⟨[.slice A6 n6 c6], rfl, rfl, rfl, k6, ?_⟩
   intro _ _ r11 _
   refine (div_n (h6.lat (r11.at_ 5 _ rfl)).c (p2.lat (r11.at_ 1 _ rfl)).c hmy (by have := bl_mul (b := 2 ^ k) hbl (bl_pow_le k); omega) (by omega) (tb hT r11)).mono ?_
   rintro _ V7 ⟨v, r, rfl, h7, g7, k7⟩
   obtain ⟨A7, n7, c7, rfl⟩ := h7.ex
   obtain ⟨B7, m7, d7, rfl⟩ := g7.ex
   replace h7 := h7.lower r11.fs
   replace g7 := g7.lower r11.fs
   refine ⟨[.slice A7 n7 c7, .slice B7 m7 d7], rfl, rfl, rfl, k7, ?_⟩
   have hlen : decide (((m7 : Nat) : Int) > 0) = decide (cman z * 2 ^ k % cman y ≠ 0) := by rw [g7.len]; exact len_pos
   have hE : IntKind.i64.wrap (IntKind.i64.wrap (x1 - x2) - (if 0 > IntKind.i64.wrap (IntKind.i64.wrap (IntKind.i64.wrap ((p : Int) + 2) + (bl (cman y) : Int)) - (bl (cman z) : Int)) then 0 else IntKind.i64.wrap (IntKind.i64.wrap (IntKind.i64.wrap ((p : Int) + 2) + (bl (cman y) : Int)) - (bl (cman z) : Int)))) = cexp z e - cexp y f - (k : Int) := by rw [hk, hx1, hx2, i64_id (x := cexp z e - cexp y f) (by omega) (by omega), i64_id (by omega) (by omega)]
   have hqb : bl (cman z * 2 ^ k / cman y) ≤ 1073741824 := by have := bl_div (d := cman y) (bl_mul (b := 2 ^ k) hbl (bl_pow_le k)); omega
   have hneg : (!(b1 == b2)) = false := by rw [hb1, hb2, hnz, hny]; rfl
   intro _ _ _ r12 S12
   refine wp_seq (rk Rn113_14 [.st 2 0 (d3 23)] Fn113_13 Bn113_15 S12 r12 ?_)
   intro W13 _ r13 _
   show Calls Tryz.prog 138 #[.bool (!(b1 == b2)), .slice A7 n7 c7, .bool (decide (((m7 : Nat) : Int) > 0)), .int .i64 (IntKind.i64.wrap ((IntKind.i64.wrap (x1 - x2)) - (if 0 > IntKind.i64.wrap ((IntKind.i64.wrap ((IntKind.i64.wrap ((p : Int) + 2)) + (bl (cman y) : Int))) - (bl (cman z) : Int)) then 0 else IntKind.i64.wrap ((IntKind.i64.wrap ((IntKind.i64.wrap ((p : Int) + 2)) + (bl (cman y) : Int))) - (bl (cman z) : Int)))))] W13 _
   rw [hlen, hE, hneg]
   refine (sticky_q (m := cman z * 2 ^ k / cman y) (more := decide (cman z * 2 ^ k % cman y ≠ 0)) (h7.lat (r13.at_ 6 _ rfl)).c (by omega) (by omega) (by omega) (tb hT r13)).mono ?_
   rintro _ V8 ⟨v, rfl, h8, k8⟩
   obtain ⟨b8, A8, n8, c8, x8, rfl⟩ := h8.ex
   replace h8 := h8.lower r13.fs
   refine ⟨[.bool b8, .slice A8 n8 c8, .int .i64 x8], rfl, rfl, rfl, k8, ?_⟩
   have hS : Bd (3 * (N + M) + 2 * p + 200) (((2 * (cman z * 2 ^ k / cman y) + (if decide (cman z * 2 ^ k % cman y ≠ 0) = true then 1 else 0) : Nat) : Int)) (cexp z e - cexp y f - (k : Int) - 1) := over_bd (by have := bl_div (d := cman y) (bl_mul (b := 2 ^ k) hbl (bl_pow_le k)); omega) (by omega) (by omega)
   intro _ _ r14 _
   refine (cut_q (p := p) (up := up) (N := 3 * (N + M) + 2 * p + 200) ⟨_, _, (h8.lat (r14.at_ 7 _ rfl)).c, rfl, hS⟩ (by omega) hp (by omega) (tb hT r14)).mono ?_
   rintro _ V9 ⟨v, c, rfl, h9, ec, sc, zc, k9⟩
   obtain ⟨b9, A9, n9, c9, x9, rfl⟩ := h9.ex
   replace h9 := h9.lower r14.fs
   refine ⟨[.bool b9, .slice A9 n9 c9, .int .i64 x9], rfl, rfl, rfl, k9, ?_⟩
   intro _ _ _ r15 S15
   exact rt S15 [.agg #[.bool b9, .slice A9 n9 c9, .int .i64 x9]] (⟨_, _, rfl, (h9.lat (r15.at_ 8 _ rfl)), by rw [over_val hz hy]; exact over_fin hmy hp (hk3 (by rw [bl_pos (by omega)]; omega)) hmz ec zc, sc, r15.first⟩)
theorem div_lo {q : Nat → Rat} {x : Nat → Rat} {t e : Rat} {i : Nat} (ht : 0 < t) (he : 0 ≤ e) (he1 : e ≤ 1) (hi : i < 4) (hq : ∀ k, k < 4 → q i ≤ q k) (k0 : Nat) (hk0 : k0 < 4) (hx0 : x k0 = t) (hx : ∀ k, k < 4 → t ≤ x k) (hc : ∀ k, k < 4 → CutOf false (x k) (q k) e) : CutOf false t (q i) e := by
 have h1 := (hc k0 hk0).1 (by rw [hx0]; exact Rat.le_of_lt ht)
 have h2 := (hc i hi).1 (Rat.le_trans (Rat.le_of_lt ht) (hx i hi))
 rw [hx0] at h1
 refine ⟨fun _ => ⟨Rat.le_trans (hq k0 hk0) h1.1, ?_⟩, fun h => absurd h (by grind)⟩
 have := Rat.mul_le_mul_of_nonneg_right (hx i hi) (show 0 ≤ 1 - e by grind)
 exact Rat.le_trans this h2.2
theorem div_hi {q : Nat → Rat} {x : Nat → Rat} {t e : Rat} {i : Nat} (ht : 0 < t) (he : 0 ≤ e) (hi : i < 4) (hq : ∀ k, k < 4 → q k ≤ q i) (k0 : Nat) (hk0 : k0 < 4) (hx0 : x k0 = t) (h0 : ∀ k, k < 4 → 0 ≤ x k) (hx : ∀ k, k < 4 → x k ≤ t) (hc : ∀ k, k < 4 → CutOf true (x k) (q k) e) : CutOf true t (q i) e := by
 have h1 := (hc k0 hk0).1 (by rw [hx0]; exact Rat.le_of_lt ht)
 have h2 := (hc i hi).1 (h0 i hi)
 rw [hx0] at h1
 refine ⟨fun _ => ⟨Rat.le_trans h1.1 (hq k0 hk0), ?_⟩, fun h => absurd h (by grind)⟩
 have := Rat.mul_le_mul_of_nonneg_right (hx i hi) (show 0 ≤ 1 + e by grind)
 exact Rat.le_trans h2.2 this
def quo4 (a b c d : Rat) : Nat → Rat | 0 => a * c⁻¹ | 1 => a * d⁻¹ | 2 => b * c⁻¹ | _ => b * d⁻¹
theorem quo_between {a b c d : Rat} (ha : 0 < a) (hab : a ≤ b) (hc : 0 < c) (hcd : c ≤ d) : ∀ k, k < 4 → a * d⁻¹ ≤ quo4 a b c d k ∧ quo4 a b c d k ≤ b * c⁻¹ := by
 have hd : 0 < d := by grind
 have i1 : d⁻¹ ≤ c⁻¹ := inv_le hc hcd
 have i0 : 0 < d⁻¹ := Rat.inv_pos.2 hd
 have i2 : 0 < c⁻¹ := Rat.inv_pos.2 hc
 have e1 := Rat.mul_le_mul_of_nonneg_left i1 (Rat.le_of_lt ha)
 have e2 := Rat.mul_le_mul_of_nonneg_right hab (Rat.le_of_lt i0)
 have e3 := Rat.mul_le_mul_of_nonneg_right hab (Rat.le_of_lt i2)
 have e4 := Rat.mul_le_mul_of_nonneg_left i1 (show 0 ≤ b by grind)
 exact four_of ⟨e1, e3⟩ ⟨Rat.le_refl, Rat.le_trans e2 e4⟩ ⟨Rat.le_trans e1 e3, Rat.le_refl⟩ ⟨e2, e4⟩
def Fo72_0 := [ig 0, ig 6, vi 12, U, U, U, U, U, U, U, U, U, U, U, U, U, U, U, U, U, U, U, U, U, U, U, U, U, U, U, U, U, U, U, U, U, U, U, U, U, U, U, U, U, U, U, U, U, U, U, U, U, U, U, U, U, U, U, U, U, U, U, U, U, U, U]
def Fo72_1 := fs Fo72_0 [(3, ps 0 0), (4, ps 1 0), (6, ps 2 0)]
def Bo72_2 := [bb 28 (i6 0), bb 28 (i6 6), bb 28 o6]
def Ro72_3 : Rg := ⟨3, 13, 0, Fo72_0, Bo72_2, [pa 0 0, pa 1 0, pa 2 0], []⟩
def Fo72_4 := fs Fo72_1 [(7, ps 4 0), (9, ps 0 0), (10, dg 0), (11, ps 1 0), (12, dg 6), (13, vi 12), (14, dg 13), (15, ps 0 0), (16, dg 0), (17, ps 1 3), (18, dg 9), (19, vi 12), (20, dg 16), (21, ps 0 3), (22, dg 3), (23, ps 1 0), (24, dg 6), (25, vi 12), (26, dg 19), (27, ps 0 3), (28, dg 3), (29, ps 1 3), (30, dg 9), (31, vi 12), (32, dg 22), (33, osl (ps 3 0) 4), (34, ig 25)]
def Bo72_5 := [bb 28 (i6 0), bb 28 (i6 6), bb 28 o6, bb 25 [vb 13, vs 14, vi 15, vb 16, vs 17, vi 18, vb 19, vs 20, vi 21, vb 22, vs 23, vi 24], bb 28 o6]
def Ro72_6 : Rg := ⟨27, 13, 3, Fo72_1, Bo72_5, [pv (ps 0 0) 0, pl (dg 0) 0 0 0, pv (ps 1 0) 0, pl (dg 6) 0 1 0, pv (vi 12) 0, pc (dg 13) 0 113 [dg 0, dg 6, vi 12, lb false] 3, pv (ps 0 0) 0, pl (dg 0) 0 0 0, pv (ps 1 3) 0, pl (dg 9) 0 1 3, pv (vi 12) 0, pc (dg 16) 1 113 [dg 0, dg 9, vi 12, lb false] 3, pv (ps 0 3) 0, pl (dg 3) 0 0 3, pv (ps 1 0) 0, pl (dg 6) 0 1 0, pv (vi 12) 0, pc (dg 19) 2 113 [dg 3, dg 6, vi 12, lb false] 3, pv (ps 0 3) 0, pl (dg 3) 0 0 3, pv (ps 1 3) 0, pl (dg 9) 0 1 3, pv (vi 12) 0, pc (dg 22) 3 113 [dg 3, dg 9, vi 12, lb false] 3, ⟨osl (ps 3 0) 4, 4, [3], .al 3, osl (ps 3 0) 4⟩, ⟨ig 25, 4, [], .cl 4 112 [osl (ps 3 0) 4] 6 [3], ig 25⟩, pa 4 0], [5, 11, 17, 23, 25]⟩
def Bo72_7 := [bb 28 (i6 0), bb 28 (i6 6), bb 28 o6, bb 25 [vb 13, vs 14, vi 15, vb 16, vs 17, vi 18, vb 19, vs 20, vi 21, vb 22, vs 23, vi 24], bb 28 (i6 25)]
def Fo72_8 := fs Fo72_4 [(8, ps 6 0), (35, ps 0 0), (36, dg 0), (37, ps 1 0), (38, dg 6), (39, vi 12), (40, dg 31), (41, ps 0 0), (42, dg 0), (43, ps 1 3), (44, dg 9), (45, vi 12), (46, dg 34), (47, ps 0 3), (48, dg 3), (49, ps 1 0), (50, dg 6), (51, vi 12), (52, dg 37), (53, ps 0 3), (54, dg 3), (55, ps 1 3), (56, dg 9), (57, vi 12), (58, dg 40), (59, osl (ps 5 0) 4), (60, ig 43)]
def Bo72_9 := [bb 28 (i6 0), bb 28 (i6 6), bb 28 o6, bb 25 [vb 13, vs 14, vi 15, vb 16, vs 17, vi 18, vb 19, vs 20, vi 21, vb 22, vs 23, vi 24], bb 28 (i6 25), bb 25 [vb 31, vs 32, vi 33, vb 34, vs 35, vi 36, vb 37, vs 38, vi 39, vb 40, vs 41, vi 42], bb 28 o6]
def Ro72_10 : Rg := ⟨27, 31, 5, Fo72_4, Bo72_9, [pv (ps 0 0) 0, pl (dg 0) 0 0 0, pv (ps 1 0) 0, pl (dg 6) 0 1 0, pv (vi 12) 0, pc (dg 31) 0 113 [dg 0, dg 6, vi 12, lb true] 3, pv (ps 0 0) 0, pl (dg 0) 0 0 0, pv (ps 1 3) 0, pl (dg 9) 0 1 3, pv (vi 12) 0, pc (dg 34) 1 113 [dg 0, dg 9, vi 12, lb true] 3, pv (ps 0 3) 0, pl (dg 3) 0 0 3, pv (ps 1 0) 0, pl (dg 6) 0 1 0, pv (vi 12) 0, pc (dg 37) 2 113 [dg 3, dg 6, vi 12, lb true] 3, pv (ps 0 3) 0, pl (dg 3) 0 0 3, pv (ps 1 3) 0, pl (dg 9) 0 1 3, pv (vi 12) 0, pc (dg 40) 3 113 [dg 3, dg 9, vi 12, lb true] 3, ⟨osl (ps 5 0) 4, 4, [5], .al 5, osl (ps 5 0) 4⟩, ⟨ig 43, 4, [], .cl 4 112 [osl (ps 5 0) 4] 6 [5], ig 43⟩, pa 6 0], [5, 11, 17, 23, 25]⟩
def Bo72_11 := [bb 28 (i6 0), bb 28 (i6 6), bb 28 o6, bb 25 [vb 13, vs 14, vi 15, vb 16, vs 17, vi 18, vb 19, vs 20, vi 21, vb 22, vs 23, vi 24], bb 28 (i6 25), bb 25 [vb 31, vs 32, vi 33, vb 34, vs 35, vi 36, vb 37, vs 38, vi 39, vb 40, vs 41, vi 42], bb 28 (i6 43)]
def Fo72_12 := fs Fo72_8 [(61, ps 4 0), (62, dg 25), (63, ps 6 3), (64, dg 46), (65, ag [vb 25, vs 26, vi 27, vb 46, vs 47, vi 48])]
def Ro72_13 : Rg := ⟨5, 49, 7, Fo72_8, Bo72_11, [pv (ps 4 0) 0, pl (dg 25) 0 4 0, pv (ps 6 3) 0, pl (dg 46) 0 6 3, pv (ag [vb 25, vs 26, vi 27, vb 46, vs 47, vi 48]) 0], []⟩
def Bo72_14 := [bb 28 (i6 0), bb 28 (i6 6), bb 28 [vb 25, vs 26, vi 27, vb 46, vs 47, vi 48], bb 25 [vb 13, vs 14, vi 15, vb 16, vs 17, vi 18, vb 19, vs 20, vi 21, vb 22, vs 23, vi 24], bb 28 (i6 25), bb 25 [vb 31, vs 32, vi 33, vb 34, vs 35, vi 36, vb 37, vs 38, vi 39, vb 40, vs 41, vi 42], bb 28 (i6 43)]
theorem divi_q {u v : Value} {a b c d : Rat} {N M p : Nat} {w : World} (h : CI w u a b N) (h' : CI w v c d M) (ha : 0 < a) (hab : a ≤ b) (hc : 0 < c) (hcd : c ≤ d) (hN : N + M ≤ 1000000) (hp : 1 ≤ p) (hp2 : p ≤ 1000000) (hT : TB w) :
 Calls Tryz.prog 72 #[u, v, .int .i64 (p : Int)] w fun en w' => ∃ v' l r, en = .returned v' ∧ PI w' w.heap.size v' l r (3 * (N + M) + 2 * p + 201) ∧ CutOf false (a * d⁻¹) l (ep p) ∧ CutOf true (b * c⁻¹) r (ep p) ∧ Short p l ∧ Short p r ∧ BL w w' := by
 obtain ⟨b0, A0, n0, c0, x0, d0, B0, m0, e0, y0, rfl⟩ := h.ex
 obtain ⟨b99, A99, n99, c99, x99, d99, B99, m99, e99, y99, rfl⟩ := h'.ex
 have hb : 0 < b := by grind
 have hd : 0 < d := by grind
 refine fn_enter (u := 64) (fn := Tryz.f72) Tryz.func72 rfl Fo72_0 [.bool b0, .slice A0 n0 c0, .int .i64 x0, .bool d0, .slice B0 m0 e0, .int .i64 y0, .bool b99, .slice A99 n99 c99, .int .i64 x99, .bool d99, .slice B99 m99 e99, .int .i64 y99, .int .i64 (p : Int)] (by kernel_rfl) rfl (fun a0 S0 r0 => ?_)
 refine wp_seq (rk Ro72_3 [] Fo72_1 Bo72_2 S0 r0 ?_)
 intro _ _ _ r1 S1
 refine wp_seq (rk Ro72_6 [.st 4 0 (i6 25)] Fo72_4 Bo72_7 S1 r1 ?_)
 intro _ _ r2 _
 refine (over_q (N := N) (M := M) (p := p) (up := false) (h.below r2.first).lo (h'.below r2.first).lo ha hc (by omega) hp (by omega) (tb hT r2)).mono ?_
 rintro _ V1 ⟨v, y1, rfl, h1, e1, s1, k1⟩
 obtain ⟨b1, A1, n1, c1, x1, rfl⟩ := h1.ex
 replace h1 := h1.lower r2.fs
 refine ⟨[.bool b1, .slice A1 n1 c1, .int .i64 x1], rfl, rfl, rfl, k1, ?_⟩
 intro _ _ r3 _
 refine (over_q (N := N) (M := M) (p := p) (up := false) (h.below r3.first).lo (h'.below r3.first).hi ha hd (by omega) hp (by omega) (tb hT r3)).mono ?_
 rintro _ V2 ⟨v, y2, rfl, h2, e2, s2, k2⟩
 obtain ⟨b2, A2, n2, c2, x2, rfl⟩ := h2.ex
 replace h2 := h2.lower r3.fs
 refine ⟨[.bool b2, .slice A2 n2 c2, .int .i64 x2], rfl, rfl, rfl, k2, ?_⟩
 intro _ _ r4 _
 refine (over_q (N := N) (M := M) (p := p) (up := false) (h.below r4.first).hi (h'.below r4.first).lo hb hc (by omega) hp (by omega) (tb hT r4)).mono ?_
 rintro _ V3 ⟨v, y3, rfl, h3, e3, s3, k3⟩
 obtain ⟨b3, A3, n3, c3, x3, rfl⟩ := h3.ex
 replace h3 := h3.lower r4.fs
 refine ⟨[.bool b3, .slice A3 n3 c3, .int .i64 x3], rfl, rfl, rfl, k3, ?_⟩
 intro _ _ r5 _
 refine (over_q (N := N) (M := M) (p := p) (up := false) (h.below r5.first).hi (h'.below r5.first).hi hb hd (by omega) hp (by omega) (tb hT r5)).mono ?_
 rintro _ V4 ⟨v, y4, rfl, h4, e4, s4, k4⟩
 obtain ⟨b4, A4, n4, c4, x4, rfl⟩ := h4.ex
 replace h4 := h4.lower r5.fs
 refine ⟨[.bool b4, .slice A4 n4 c4, .int .i64 x4], rfl, rfl, rfl, k4, ?_⟩
 intro W6 g6 r6 q6
 refine (span_q (eb := (fun | 0 => b1 | 1 => b2 | 2 => b3 | _ => b4)) (eA := (fun | 0 => A1 | 1 => A2 | 2 => A3 | _ => A4)) (en := (fun | 0 => n1 | 1 => n2 | 2 => n3 | _ => n4)) (ec := (fun | 0 => c1 | 1 => c2 | 2 => c3 | _ => c4)) (ex := (fun | 0 => x1 | 1 => x2 | 2 => x3 | _ => x4)) (q := (fun | 0 => y1 | 1 => y2 | 2 => y3 | _ => y4)) (g0 := g6 3) (N := 3 * (N + M) + 2 * p + 201) (q6 3 (by decide) _ rfl) (four_of (h1.lat (r6.at_ 0 _ rfl)).c (h2.lat (r6.at_ 1 _ rfl)).c (h3.lat (r6.at_ 2 _ rfl)).c (h4.lat (r6.at_ 3 _ rfl)).c) (by omega) (tb hT r6)).mono ?_
 rintro _ V5 ⟨i5, j5, hi5, hj5, hq5, rfl, k5⟩
 refine ⟨[.bool ((fun | 0 => b1 | 1 => b2 | 2 => b3 | _ => b4) i5), .slice ((fun | 0 => A1 | 1 => A2 | 2 => A3 | _ => A4) i5) ((fun | 0 => n1 | 1 => n2 | 2 => n3 | _ => n4) i5) ((fun | 0 => c1 | 1 => c2 | 2 => c3 | _ => c4) i5), .int .i64 ((fun | 0 => x1 | 1 => x2 | 2 => x3 | _ => x4) i5), .bool ((fun | 0 => b1 | 1 => b2 | 2 => b3 | _ => b4) j5), .slice ((fun | 0 => A1 | 1 => A2 | 2 => A3 | _ => A4) j5) ((fun | 0 => n1 | 1 => n2 | 2 => n3 | _ => n4) j5) ((fun | 0 => c1 | 1 => c2 | 2 => c3 | _ => c4) j5), .int .i64 ((fun | 0 => x1 | 1 => x2 | 2 => x3 | _ => x4) j5)], rfl, rfl, rfl, k5, ?_⟩
 intro _ _ _ r7 S7
 refine wp_seq (rk Ro72_10 [.st 6 0 (i6 43)] Fo72_8 Bo72_11 S7 r7 ?_)
 intro _ _ r8 _
 refine (over_q (N := N) (M := M) (p := p) (up := true) (h.below r8.first).lo (h'.below r8.first).lo ha hc (by omega) hp (by omega) (tb hT r8)).mono ?_
 rintro _ V6 ⟨v, y6, rfl, h6, e6, s6, k6⟩
 obtain ⟨b6, A6, n6, c6, x6, rfl⟩ := h6.ex
 replace h6 := h6.lower r8.fs
 refine ⟨[.bool b6, .slice A6 n6 c6, .int .i64 x6], rfl, rfl, rfl, k6, ?_⟩
 intro _ _ r9 _
 refine (over_q (N := N) (M := M) (p := p) (up := true) (h.below r9.first).lo (h'.below r9.first).hi ha hd (by omega) hp (by omega) (tb hT r9)).mono ?_
 rintro _ V7 ⟨v, y7, rfl, h7, e7, s7, k7⟩
 obtain ⟨b7, A7, n7, c7, x7, rfl⟩ := h7.ex
 replace h7 := h7.lower r9.fs
 refine ⟨[.bool b7, .slice A7 n7 c7, .int .i64 x7], rfl, rfl, rfl, k7, ?_⟩
 intro _ _ r10 _
 refine (over_q (N := N) (M := M) (p := p) (up := true) (h.below r10.first).hi (h'.below r10.first).lo hb hc (by omega) hp (by omega) (tb hT r10)).mono ?_
 rintro _ V8 ⟨v, y8, rfl, h8, e8, s8, k8⟩
 obtain ⟨b8, A8, n8, c8, x8, rfl⟩ := h8.ex
 replace h8 := h8.lower r10.fs
 refine ⟨[.bool b8, .slice A8 n8 c8, .int .i64 x8], rfl, rfl, rfl, k8, ?_⟩
 intro _ _ r11 _
 refine (over_q (N := N) (M := M) (p := p) (up := true) (h.below r11.first).hi (h'.below r11.first).hi hb hd (by omega) hp (by omega) (tb hT r11)).mono ?_
 rintro _ V9 ⟨v, y9, rfl, h9, e9, s9, k9⟩
 obtain ⟨b9, A9, n9, c9, x9, rfl⟩ := h9.ex
 replace h9 := h9.lower r11.fs
 refine ⟨[.bool b9, .slice A9 n9 c9, .int .i64 x9], rfl, rfl, rfl, k9, ?_⟩
 intro W12 g12 r12 q12
 refine (span_q (eb := (fun | 0 => b6 | 1 => b7 | 2 => b8 | _ => b9)) (eA := (fun | 0 => A6 | 1 => A7 | 2 => A8 | _ => A9)) (en := (fun | 0 => n6 | 1 => n7 | 2 => n8 | _ => n9)) (ec := (fun | 0 => c6 | 1 => c7 | 2 => c8 | _ => c9)) (ex := (fun | 0 => x6 | 1 => x7 | 2 => x8 | _ => x9)) (q := (fun | 0 => y6 | 1 => y7 | 2 => y8 | _ => y9)) (g0 := g12 5) (N := 3 * (N + M) + 2 * p + 201) (q12 5 (by decide) _ rfl) (four_of (h6.lat (r12.at_ 5 _ rfl)).c (h7.lat (r12.at_ 6 _ rfl)).c (h8.lat (r12.at_ 7 _ rfl)).c (h9.lat (r12.at_ 8 _ rfl)).c) (by omega) (tb hT r12)).mono ?_
 rintro _ V10 ⟨i10, j10, hi10, hj10, hq10, rfl, k10⟩
 refine ⟨[.bool ((fun | 0 => b6 | 1 => b7 | 2 => b8 | _ => b9) i10), .slice ((fun | 0 => A6 | 1 => A7 | 2 => A8 | _ => A9) i10) ((fun | 0 => n6 | 1 => n7 | 2 => n8 | _ => n9) i10) ((fun | 0 => c6 | 1 => c7 | 2 => c8 | _ => c9) i10), .int .i64 ((fun | 0 => x6 | 1 => x7 | 2 => x8 | _ => x9) i10), .bool ((fun | 0 => b6 | 1 => b7 | 2 => b8 | _ => b9) j10), .slice ((fun | 0 => A6 | 1 => A7 | 2 => A8 | _ => A9) j10) ((fun | 0 => n6 | 1 => n7 | 2 => n8 | _ => n9) j10) ((fun | 0 => c6 | 1 => c7 | 2 => c8 | _ => c9) j10), .int .i64 ((fun | 0 => x6 | 1 => x7 | 2 => x8 | _ => x9) j10)], rfl, rfl, rfl, k10, ?_⟩
 intro _ _ _ r13 S13
 refine wp_seq (rk Ro72_13 [.st 2 0 [vb 25, vs 26, vi 27, vb 46, vs 47, vi 48]] Fo72_12 Bo72_14 S13 r13 ?_)
 intro _ _ _ r14 S14
 exact rt S14 [.agg #[.bool ((fun | 0 => b1 | 1 => b2 | 2 => b3 | _ => b4) i5), .slice ((fun | 0 => A1 | 1 => A2 | 2 => A3 | _ => A4) i5) ((fun | 0 => n1 | 1 => n2 | 2 => n3 | _ => n4) i5) ((fun | 0 => c1 | 1 => c2 | 2 => c3 | _ => c4) i5), .int .i64 ((fun | 0 => x1 | 1 => x2 | 2 => x3 | _ => x4) i5), .bool ((fun | 0 => b6 | 1 => b7 | 2 => b8 | _ => b9) j10), .slice ((fun | 0 => A6 | 1 => A7 | 2 => A8 | _ => A9) j10) ((fun | 0 => n6 | 1 => n7 | 2 => n8 | _ => n9) j10) ((fun | 0 => c6 | 1 => c7 | 2 => c8 | _ => c9) j10), .int .i64 ((fun | 0 => x6 | 1 => x7 | 2 => x8 | _ => x9) j10)]] (⟨_, _, _, rfl, .mk ((four_of (p := fun k => PQ _ w.heap.size (.agg #[.bool ((fun | 0 => b1 | 1 => b2 | 2 => b3 | _ => b4) k), .slice ((fun | 0 => A1 | 1 => A2 | 2 => A3 | _ => A4) k) ((fun | 0 => n1 | 1 => n2 | 2 => n3 | _ => n4) k) ((fun | 0 => c1 | 1 => c2 | 2 => c3 | _ => c4) k), .int .i64 ((fun | 0 => x1 | 1 => x2 | 2 => x3 | _ => x4) k)]) ((fun | 0 => y1 | 1 => y2 | 2 => y3 | _ => y4) k) (3 * (N + M) + 2 * p + 201)) (h1.lat (r14.at_ 0 _ rfl)) (h2.lat (r14.at_ 1 _ rfl)) (h3.lat (r14.at_ 2 _ rfl)) (h4.lat (r14.at_ 3 _ rfl)) i5 hi5)) ((four_of (p := fun k => PQ _ w.heap.size (.agg #[.bool ((fun | 0 => b6 | 1 => b7 | 2 => b8 | _ => b9) k), .slice ((fun | 0 => A6 | 1 => A7 | 2 => A8 | _ => A9) k) ((fun | 0 => n6 | 1 => n7 | 2 => n8 | _ => n9) k) ((fun | 0 => c6 | 1 => c7 | 2 => c8 | _ => c9) k), .int .i64 ((fun | 0 => x6 | 1 => x7 | 2 => x8 | _ => x9) k)]) ((fun | 0 => y6 | 1 => y7 | 2 => y8 | _ => y9) k) (3 * (N + M) + 2 * p + 201)) (h6.lat (r14.at_ 5 _ rfl)) (h7.lat (r14.at_ 6 _ rfl)) (h8.lat (r14.at_ 7 _ rfl)) (h9.lat (r14.at_ 8 _ rfl)) j10 hj10)), div_lo (x := quo4 a b c d) (Rat.mul_pos ha (Rat.inv_pos.2 hd)) (Rat.le_of_lt (ep_pos p)) (ep_small hp) hi5 (fun k hk => (hq5 k hk).1) 1 (by decide) rfl (fun k hk => (quo_between ha hab hc hcd k hk).1) (four_of e1 e2 e3 e4), div_hi (x := quo4 a b c d) (Rat.mul_pos hb (Rat.inv_pos.2 hc)) (Rat.le_of_lt (ep_pos p)) hj10 (fun k hk => (hq10 k hk).2) 2 (by decide) rfl (fun k hk => Rat.le_trans (Rat.le_of_lt (Rat.mul_pos ha (Rat.inv_pos.2 hd))) (quo_between ha hab hc hcd k hk).1) (fun k hk => (quo_between ha hab hc hcd k hk).2) (four_of e6 e7 e8 e9), four_of (p := fun k => Short p ((fun | 0 => y1 | 1 => y2 | 2 => y3 | _ => y4) k)) s1 s2 s3 s4 i5 hi5, four_of (p := fun k => Short p ((fun | 0 => y6 | 1 => y7 | 2 => y8 | _ => y9) k)) s6 s7 s8 s9 j10 hj10, r14.first⟩)
def Fo73_0 : List Sy := [U, U, U]
def Fo73_1 := fs Fo73_0 [(0, ps 0 0)]
def Bo73_2 := [bb 28 o6]
def Ro73_3 : Rg := ⟨1, 0, 0, Fo73_0, Bo73_2, [pa 0 0], []⟩
def Fo73_4 := fs Fo73_1 [(1, dg 0), (2, ig 3)]
def Ro73_5 : Rg := ⟨2, 0, 1, Fo73_1, Bo73_2, [pc (dg 0) 0 69 [li 1] 3, pc (ig 3) 1 83 [dg 0] 6], [0, 1]⟩
def Bo73_6 := [bb 28 (i6 3)]
theorem eone_q (w : World) (hT : TB w) :
 Calls Tryz.prog 73 #[] w fun en w' => ∃ v', en = .returned v' ∧ PI w' w.heap.size v' 1 1 64 ∧ BL w w' := by
 refine fn_enter (u := 64) (fn := Tryz.f73) Tryz.func73 rfl Fo73_0 [] (by kernel_rfl) rfl (fun a0 S0 r0 => ?_)
 refine wp_seq (rk Ro73_3 [] Fo73_1 Bo73_2 S0 r0 ?_)
 intro _ _ _ r1 S1
 refine wp_seq (rk Ro73_5 [.st 0 0 (i6 3)] Fo73_4 Bo73_6 S1 r1 ?_)
 intro _ _ r2 _
 refine (int_q 1 _ (by decide) (by decide) (tb hT r2)).mono ?_
 rintro _ V1 ⟨v, rfl, h1, k1⟩
 obtain ⟨b1, A1, n1, c1, x1, rfl⟩ := h1.ex
 replace h1 := h1.lower r2.fs
 refine ⟨[.bool b1, .slice A1 n1 c1, .int .i64 x1], rfl, rfl, rfl, k1, ?_⟩
 intro _ _ r3 _
 refine (point_q (h1.lat (r3.at_ 0 _ rfl)).c (by decide) (tb hT r3)).mono ?_
 rintro _ V2 ⟨v, rfl, h2, k2⟩
 obtain ⟨b2, A2, n2, c2, x2, d2, B2, m2, e2, y2, rfl⟩ := h2.ex
 replace h2 := h2.lower r3.fs
 refine ⟨[.bool b2, .slice A2 n2 c2, .int .i64 x2, .bool d2, .slice B2 m2 e2, .int .i64 y2], rfl, rfl, rfl, k2, ?_⟩
 intro _ _ _ r4 S4
 exact rt S4 [.agg #[.bool b2, .slice A2 n2 c2, .int .i64 x2, .bool d2, .slice B2 m2 e2, .int .i64 y2]] (⟨_, rfl, (h2.lat (r4.at_ 1 _ rfl)), r4.first⟩)
theorem Ab.exs {k : Nat} {x l h : Rat} (a : Ab k x l h) (hx : 0 ≤ x) : Enc l h x (ep k) := ⟨⟨a.nar.1, a.le, .inl ⟨hx, a.ex⟩⟩, a.nar⟩
theorem enc_size {k n : Nat} {x l h : Rat} (hn : n = 8192) (a : Enc l h x (ep k)) (hk : 1 ≤ k) (hx : -16384 ≤ x) (hx2 : x ≤ 16384) : (((2 ^ (3 * n + 1) : Nat) : Rat))⁻¹ ≤ l ∧ h ≤ ((2 ^ (3 * n + 1) : Nat) : Rat) := by
 have h2 : h ≤ l * 2 := by
  have := a.2.2
  have l0 := a.2.1
  have e := ep_small hk
  have := Rat.mul_le_mul_of_nonneg_left e (Rat.le_of_lt l0)
  grind
 have e : ((2 * n : Nat) : Rat) = 16384 := by rw [hn]; decide +kernel
 exact a.1.sizes (n := n) (by rw [e]; exact hx) (by rw [e]; exact hx2) h2
theorem PI.enc_fit {w : World} {b N P k : Nat} {v : Value} {x l u : Rat} (h : PI w b v l u N) (a : Enc l u x (ep k)) (hk : 1 ≤ k) (hx : -16384 ≤ x) (hx2 : x ≤ 16384) (s1 : Short P l) (s2 : Short P u) (hP : P ≤ 8000) : PI w b v l u 32768 := by
 obtain ⟨n, hn⟩ : ∃ n, n = 8192 := ⟨_, rfl⟩
 obtain ⟨q1, q2⟩ := enc_size hn a hk hx hx2
 exact h.fit s1 s2 q1 a.1.2.1 q2 (by omega)
theorem inv_enc {p : Nat} {t l u l' u' : Rat} (a : Ab (p + 50) (-t) l u) (ht : t ≤ 0) (h1 : CutOf false (1 * u⁻¹) l' (ep (p + 64))) (h2 : CutOf true (1 * l⁻¹) u' (ep (p + 64))) : Enc l' u' t (ep (p + 49)) := by
 rw [Rat.one_mul] at h1 h2
 have e := (a.exs (by grind)).inv h1 h2 (Rat.le_of_lt (ep_pos _)) (ep_small (by omega)) (Rat.le_of_lt (ep_pos _)) (by
  have := eight_ep (p + 61); have := ep_small (p := p + 61) (by omega); rw [show p + 64 = p + 61 + 3 by omega]; grind)
 rw [Rat.neg_neg] at e
 refine ⟨e.1, e.2.more ?_⟩
 have h5 := ep_succ (p + 49)
 have h3 := eight_ep (p + 50)
 have := ep_le (p := p + 53) (q := p + 64) (by omega)
 rw [show p + 50 + 3 = p + 53 by omega] at h3
 rw [show p + 49 + 1 = p + 50 by omega] at h5
 have h6 := ep_pos (p + 53)
 clear e h1 h2 a
 generalize ep (p + 50) = A at *
 generalize ep (p + 64) = B at *
 generalize ep (p + 53) = C at *
 generalize ep (p + 49) = D at *
 grind
theorem ab_nonneg (t : Rat) : 0 ≤ ab t := by unfold ab; split <;> grind
theorem ab_le {t M : Rat} (h1 : -M ≤ t) (h2 : t ≤ M) : ab t ≤ M := by unfold ab; split <;> grind
theorem ab_neg {t : Rat} (h : t ≤ 0) : ab t = -t := by unfold ab; split <;> grind
theorem ab_pos {t : Rat} (h : 0 ≤ t) : ab t = t := by unfold ab; rw [if_pos h]
theorem neg_le {z e : Int} (h : cneg z = true) : Dv z e ≤ 0 := by
 have : z < 0 := of_decide_eq_true h
 exact Rat.le_of_lt (Dv_lt_zero.2 this)
theorem neg_ge {z e : Int} (h : cneg z = false) : 0 ≤ Dv z e := by
 have : ¬ z < 0 := of_decide_eq_false h
 exact Dv_nonneg.2 (by omega)
def Fo33_0 := [dg 0, vi 3, U, U, U, U, U, U, U, U, U, U, U, U, U, U, U, U]
def Fo33_1 := fs Fo33_0 [(2, ps 0 0), (4, ps 1 0)]
def Bo33_2 := [bb 25 (d3 0), bb 28 o6]
def Ro33_3 : Rg := ⟨2, 4, 0, Fo33_0, Bo33_2, [pa 0 0, pa 1 0], []⟩
def Fo33_4 := fs Fo33_1 [(5, ps 2 0), (6, dg 0), (7, dg 4), (8, vi 3), (9, ig 7)]
def Bo33_5 := [bb 25 (d3 0), bb 28 o6, bb 28 o6]
def Ro33_6 : Rg := ⟨5, 4, 2, Fo33_1, Bo33_5, [pl (dg 0) 0 0 0, pc (dg 4) 0 68 [dg 0] 3, pv (vi 3) 0, pc (ig 7) 1 71 [dg 4, vi 3] 6, pa 2 0], [1, 3]⟩
def Bo33_7 := [bb 25 (d3 0), bb 28 o6, bb 28 (i6 7)]
def Fo33_8 := fs Fo33_4 [(10, ps 0 0), (11, vb 0)]
def Ro33_9 : Rg := ⟨2, 13, 3, Fo33_4, Bo33_7, [pv (ps 0 0) 0, pl (vb 0) 0 0 0], []⟩
def Fo33_10 := fs Fo33_8 [(12, ig 13), (13, ig 7), (14, vi 3), (15, bo .add (vi 3) (li 64)), (16, ig 19)]
def Ro33_11 : Rg := ⟨5, 13, 3, Fo33_8, Bo33_7, [pc (ig 13) 0 73 [] 6, pl (ig 7) 0 2 0, pv (vi 3) 0, pv (bo .add (vi 3) (li 64)) 0, pc (ig 19) 1 72 [ig 13, ig 7, bo .add (vi 3) (li 64)] 6], [0, 4]⟩
def Bo33_12 := [bb 25 (d3 0), bb 28 (i6 19), bb 28 (i6 7)]
def Fo33_13 := fs Fo33_8 [(17, ig 7)]
def Ro33_14 : Rg := ⟨1, 13, 3, Fo33_8, Bo33_7, [pl (ig 7) 0 2 0], []⟩
def Bo33_15 := [bb 25 (d3 0), bb 28 (i6 7), bb 28 (i6 7)]
theorem power_q {v : Value} {t : Rat} {N p : Nat} {w : World} (h : CQ w v t N) (ht : -16384 ≤ t) (ht2 : t ≤ 16384) (hN : N ≤ 16777216) (hp : 8 ≤ p) (hp2 : p ≤ 5000) (hT : TB w) :
 Calls Tryz.prog 33 #[v, .int .i64 (p : Int)] w fun en w' => ∃ v' l u, en = .returned v' ∧ PI w' w.heap.size v' l u 32768 ∧ Enc l u t (ep (p + 49)) ∧ BL w w' := by
 obtain ⟨z, e, hz, rfl, hB⟩ := h
 have h : CQ w v (Dv z e) N := ⟨z, e, hz, rfl, hB⟩
 obtain ⟨t, et⟩ : ∃ t, t = Dv z e := ⟨_, rfl⟩
 rw [← et] at ht ht2 h ⊢
 obtain ⟨b0, A0, n0, c0, x0, rfl⟩ := h.ex
 have hb0 := (CDy.cells hz).1
 have hw : IntKind.i64.wrap ((p : Int) + 64) = ((p + 64 : Nat) : Int) := i64_id (by omega) (by omega)
 refine fn_enter (u := 64) (fn := Tryz.f33) Tryz.func33 rfl Fo33_0 [.bool b0, .slice A0 n0 c0, .int .i64 x0, .int .i64 (p : Int)] (by kernel_rfl) rfl (fun a0 S0 r0 => ?_)
 refine wp_seq (rk Ro33_3 [] Fo33_1 Bo33_2 S0 r0 ?_)
 intro _ _ _ r1 S1
 refine wp_seq (rk Ro33_6 [.st 2 0 (i6 7)] Fo33_4 Bo33_7 S1 r1 ?_)
 intro _ _ r2 _
 refine (abs_q (h.below r2.first) (by omega) (tb hT r2)).mono ?_
 rintro _ V1 ⟨v, rfl, h1, k1⟩
 obtain ⟨b1, A1, n1, c1, x1, rfl⟩ := h1.ex
 replace h1 := h1.lower r2.fs
 refine ⟨[.bool b1, .slice A1 n1 c1, .int .i64 x1], rfl, rfl, rfl, k1, ?_⟩
 intro _ _ r3 _
 refine (above_q (h1.lat (r3.at_ 0 _ rfl)).c (ab_nonneg t) (ab_le ht ht2) (by omega) hp hp2 (tb hT r3)).mono ?_
 rintro _ V2 ⟨v, l, u, rfl, h2, f2, k2⟩
 obtain ⟨b2, A2, n2, c2, x2, d2, B2, m2, e2, y2, rfl⟩ := h2.ex
 replace h2 := h2.lower r3.fs
 refine ⟨[.bool b2, .slice A2 n2 c2, .int .i64 x2, .bool d2, .slice B2 m2 e2, .int .i64 y2], rfl, rfl, rfl, k2, ?_⟩
 intro _ _ _ r4 S4
 refine wp_seq ?_
 refine wp_seq (rk Ro33_9 [] Fo33_8 Bo33_7 S4 r4 ?_)
 intro _ _ _ r5 S5
 refine wp_cond_split (t := b0) (S5.cnd (by kernel_rfl)) (fun q1 => ?_) (fun q1 => ?_)
 · have htn : t ≤ 0 := by rw [et]; exact neg_le (by rw [← hb0]; exact q1)
   refine wp_seq (rk Ro33_11 [.st 1 0 (i6 19)] Fo33_10 Bo33_12 S5 r5 ?_)
   intro W6 g6 r6 _
   refine (eone_q _ (tb hT r6)).mono ?_
   rintro _ V3 ⟨v, rfl, h3, k3⟩
   obtain ⟨b3, A3, n3, c3, x3, d3, B3, m3, e3, y3, rfl⟩ := h3.ex
   replace h3 := h3.lower r6.fs
   refine ⟨[.bool b3, .slice A3 n3 c3, .int .i64 x3, .bool d3, .slice B3 m3 e3, .int .i64 y3], rfl, rfl, rfl, k3, ?_⟩
   intro W7 _ r7 _
   show Calls Tryz.prog 72 #[.agg #[.bool b3, .slice A3 n3 c3, .int .i64 x3, .bool d3, .slice B3 m3 e3, .int .i64 y3], .agg #[.bool b2, .slice A2 n2 c2, .int .i64 x2, .bool d2, .slice B2 m2 e2, .int .i64 y2], .int .i64 (IntKind.i64.wrap ((p : Int) + 64))] W7 _
   rw [hw]
   refine (divi_q (p := p + 64) (h3.lat (r7.at_ 2 _ rfl)).c (h2.lat (r7.at_ 1 _ rfl)).c (by decide +kernel) Rat.le_refl f2.nar.1 f2.le (by decide) (by omega) (by omega) (tb hT r7)).mono ?_
   rintro _ V4 ⟨v, l', u', rfl, h4, d1, d2, s1, s2, k4⟩
   obtain ⟨b4, A4, n4, c4, x4, d4, B4, m4, e4, y4, rfl⟩ := h4.ex
   replace h4 := h4.lower r7.fs
   have henc := inv_enc (t := t) (by rw [← ab_neg htn]; exact f2) htn d1 d2
   replace h4 := h4.enc_fit henc (by omega) ht ht2 s1 s2 (by omega)
   refine ⟨[.bool b4, .slice A4 n4 c4, .int .i64 x4, .bool d4, .slice B4 m4 e4, .int .i64 y4], rfl, rfl, rfl, k4, ?_⟩
   intro _ _ _ r8 S8
   exact wp_ret (then_ret (ret_ok S8 [.agg #[.bool b4, .slice A4 n4 c4, .int .i64 x4, .bool d4, .slice B4 m4 e4, .int .i64 y4]] (by kernel_rfl) (⟨_, _, _, rfl, (h4.lat (r8.at_ 3 _ rfl)), henc, r8.first⟩)))
 · have htp : 0 ≤ t := by rw [et]; exact neg_ge (by rw [← hb0]; exact q1)
   refine wp_skip ?_
   refine wp_seq (rk Ro33_14 [.st 1 0 (i6 7)] Fo33_13 Bo33_15 S5 r5 ?_)
   intro _ g6 W6 r6 S6
   exact rt S6 [.agg #[.bool b2, .slice A2 n2 c2, .int .i64 x2, .bool d2, .slice B2 m2 e2, .int .i64 y2]] (⟨_, _, _, rfl, (h2.lat (r6.at_ 1 _ rfl)), by have := f2.exs (ab_nonneg t); rw [ab_pos htp] at this; exact ⟨this.1, this.2.more (ep_le (by omega))⟩, r6.first⟩)
theorem trim_all (l : List Nat) (A : Option Addr) (c : Nat) (w : World) (hr : kU.C w A l.length l) (hc : l.length ≤ c) (hw : Wf l) :
 Calls Tryz.prog 109 #[.slice A l.length c] w fun e w' => e = .returned (.slice A (limbs (nv l)).length (limbs (nv l)).length) ∧ ∃ m, w' = w.drewN m := by
 have hl : l.length ≤ 9223372036854775807 := Kd.C_max hr
 have HR := yk hr
 have HW := yk hw
 clear hr hw
 go_enter Tryz.func109, Tryz.ntmps109
 go_wp2
 go_loopw [3] (fun i wr => ∃ k : Nat, i = .int .i64 k ∧ k ≤ l.length ∧ Aside0 (∃ n, wr = w.drewN n) ∧ Aside0 (∀ j x, k ≤ j → l[j]? = some x → x = 0)) (fun i _ => (intOf i).toNat)
 case atStart => exact ⟨l.length, rfl, Nat.le_refl _, ⟨⟨0, rfl⟩⟩, ⟨fun j x hj hx => by rw [List.getElem?_eq_none hj] at hx; cases hx⟩⟩
 case round =>
  obtain ⟨k, rfl, hk, HWR, HG⟩ := hrel
  obtain ⟨nw, rfl⟩ := HWR.out
  clear HWR
  have hkc : k ≤ c := by omega
  have HBB := yk (pw_below_drewN (Below.refl w.heap.size w) nw)
  have hsl := run_full l.length A c k hc hk
  by_cases hk0 : k = 0
  · have HK := yk (limbs_take HW.out hk HG.out (fun h => by omega))
    have HKL := yk (show (limbs (nv l)).length = k by rw [HK.out, List.length_take]; omega)
    have hkn : k ≤ 0 := by omega
    have hkd2 : decide (0 < k) = false := decide_eq_false (by omega)
    have hkd : decide (0 < (k : Int)) = false := decide_eq_false (by omega)
    clear hk0
    go_wp2
    go_ret
    exact ⟨by rw [HKL.out]; rfl, ⟨nw, rfl⟩⟩
  · have hkd : decide (0 < (k : Int)) = true := decide_eq_true (by omega)
    have hkp : 0 < k := by omega
    obtain ⟨ad, x, rfl, hx0, hcell⟩ := at_word HR.out rfl (k - 1) (by omega)
    have hx := yk hx0
    have e1 : IntKind.i64.wrap ((k : Int) - 1) = (k : Int) - 1 := by unfold IntKind.wrap; simp [IntKind.bits, IntKind.signed]; omega
    have e2 : ((k : Int) - 1).toNat = k - 1 := by omega
    have e3 : 0 ≤ (k : Int) - 1 := by omega
    have e4 : (k : Int) - 1 < l.length := by omega
    clear hx0 hk0
    by_cases hz : x = 0
    · subst hz
      clear hsl
      go_wp2
      go_roundw
      case rel =>
       refine ⟨k - 1, by rw [show ((k - 1 : Nat) : Int) = (k : Int) - 1 by omega], by omega, ⟨⟨nw, rfl⟩⟩, ⟨fun j y hj hy => ?_⟩⟩
       by_cases hjk : j = k - 1
       · subst hjk
         have := hx.out
         rw [hy] at this
         exact Option.some.inj this
       · exact HG.out j y (by omega) hy
      case measure => simp [intOf]; omega
    · have HK := yk (limbs_take HW.out hk HG.out (fun _ => ⟨x, hx.out, hz⟩))
      have HKL := yk (show (limbs (nv l)).length = k by rw [HK.out, List.length_take]; omega)
      have hxz : ((x : Int) == 0) = false := by simp; exact hz
      go_wp2
      go_ret
      exact ⟨by rw [HKL.out]; rfl, ⟨nw, rfl⟩⟩
def AN (w : World) (v : Value) (m : Nat) : Prop := ∃ A n c l, v = .slice A n c ∧ kU.C w A n l ∧ l.length = n ∧ n ≤ c ∧ Wf l ∧ nv l = m
theorem AN.below {w w1 : World} {m : Nat} {v : Value} (h : AN w v m) (hb : BL w w1) : AN w1 v m := by
 obtain ⟨A, n, c, l, h1, h2, h3⟩ := h; exact ⟨A, n, c, l, h1, Kd.C_below h2 hb, h3⟩
theorem AN.ex {w : World} {m : Nat} {v : Value} (h : AN w v m) : ∃ A n c, v = .slice A n c := by
 obtain ⟨A, n, c, l, rfl, _⟩ := h; exact ⟨A, n, c, rfl⟩
theorem trim_n {w : World} {A : Option Addr} {n c m : Nat} (h : AN w (.slice A n c) m) :
 Calls Tryz.prog 109 #[.slice A n c] w fun e w' => e = .returned (.slice A (limbs m).length (limbs m).length) ∧ BL w w' := by
 obtain ⟨A', n', c', l, he, h2, h3, h4, h5, h6⟩ := h
 obtain ⟨rfl, rfl, rfl⟩ := slice_inj he
 subst h3
 refine (trim_all l A c w h2 h4 h5).mono ?_
 rintro e w' ⟨rfl, k, rfl⟩
 rw [h6]
 exact ⟨rfl, pw_below_drewN yr _⟩
theorem AN.trimmed {w : World} {A : Option Addr} {n c m : Nat} (h : AN w (.slice A n c) m) : CN w (.slice A (limbs m).length (limbs m).length) m := by
 obtain ⟨A', n', c', l, he, h2, h3, h4, h5, h6⟩ := h
 obtain ⟨rfl, rfl, rfl⟩ := slice_inj he
 subst h3
 have := C_trim h2 h5
 rw [h6] at this
 exact ⟨_, _, _, rfl, this, rfl, Nat.le_refl _⟩
theorem low_n {w : World} {v : Value} {m : Nat} (h : CN w v m) (hm : bl m ≤ 4294967296) (hT : TB w) :
 Calls Tryz.prog 132 #[v] w fun e w' => e = .returned (.int .i64 (tz m : Int)) ∧ BL w w' := by
 obtain ⟨A, n, c, rfl, h1, rfl, h3⟩ := h
 have hl := len_le (K := 67108864) hm
 refine (plow_any (limbs m) A c w h1 h3 (wf_limbs _) (by omega) hT).mono ?_
 rintro e w' ⟨rfl, n, rfl⟩
 rw [nv_limbs]
 exact ⟨rfl, pw_below_drewN yr _⟩
theorem PDy.zero0 (w : World) (b : Nat) (x : Int) : PDy w b (.agg #[.bool false, .slice none 0 0, .int .i64 0]) 0 x := by
 refine ⟨none, 0, 0, rfl, ?_⟩
 rw [cman_zero]
 exact ⟨none, 0, 0, 0, [], rfl, by simp [limbs], Nat.le_refl _, by simp [limbs], Kd.R_nil _ _ _ _ _⟩
theorem PDy.of_cells {w : World} {b : Nat} {v : Value} {s : Bool} {m : Nat} {x X : Int} (h : PN w b v (m / 2 ^ tz m)) (hm : m ≠ 0) (hX : X = x + (tz m : Int)) : PDy w b (.agg #[.bool s, v, .int .i64 X]) (sgn s m) x := by
 obtain ⟨A, n, c, rfl⟩ := h.ex
 refine ⟨A, n, c, ?_, ?_⟩
 · rw [cneg_sgn hm, cexp_sgn hm, hX]
 · rw [cman_sgn]; exact h
theorem len_zero {m : Nat} (h : ((((limbs m).length : Nat) : Int) == 0) = true) : m = 0 := by
 have h2 : (((limbs m).length : Nat) : Int) = 0 := eq_of_beq h
 exact limbs_zero_len.1 (by omega)
theorem tz_le_bl {m : Nat} (h : m ≠ 0) : tz m ≤ bl m := Nat.le_of_lt (tz_lt_bl h)
def Fp102_0 := [vb 0, vs 1, vi 2, U, U, U, U, U, U, U, U, U, U, U, U, U, U, U, U, U, U, U, U, U, U, U, U, U, U, U]
def Fp102_1 := fs Fp102_0 [(6, ps 0 0)]
def Bp102_2 := [bb 25 o3]
def Rp102_3 : Rg := ⟨1, 3, 0, Fp102_0, Bp102_2, [pa 0 0], []⟩
def Fp102_4 := fs Fp102_1 [(1, vs 3), (10, vs 1), (11, vs 3)]
def Rp102_5 : Rg := ⟨2, 3, 1, Fp102_1, Bp102_2, [pv (vs 1) 0, pc (vs 3) 0 109 [vs 1] 1], [1]⟩
def Fp102_6 := fs Fp102_4 [(12, vs 3), (13, f1 lnF (vs 3)), (14, bo .eql (f1 lnF (vs 3)) (li 0))]
def Rp102_7 : Rg := ⟨3, 4, 1, Fp102_4, Bp102_2, [pv (vs 3) 0, pv (f1 lnF (vs 3)) 0, pv (bo .eql (f1 lnF (vs 3)) (li 0)) 0], []⟩
def Fp102_8 := fs Fp102_6 [(15, ag o3)]
def Rp102_9 : Rg := ⟨1, 4, 1, Fp102_6, Bp102_2, [pv (ag o3) 0], []⟩
def Fp102_10 := fs Fp102_6 [(7, vi 4), (16, vs 3), (17, vi 4)]
def Rp102_11 : Rg := ⟨3, 4, 1, Fp102_6, Bp102_2, [pv (vs 3) 0, pc (vi 4) 0 132 [vs 3] 1, pv (vi 4) 1], [1]⟩
def Fp102_12 := fs Fp102_10 [(8, vs 5), (9, vb 6), (18, tu [vs 5, vb 6]), (19, vs 3), (20, vi 4), (21, tu [vs 5, vb 6]), (22, vs 5), (23, vb 6)]
def Rp102_13 : Rg := ⟨8, 5, 1, Fp102_10, Bp102_2, [pv (vs 3) 0, pv (vi 4) 0, pc (tu [vs 5, vb 6]) 0 133 [vs 3, vi 4] 2, pv (tu [vs 5, vb 6]) 1, pv (vs 5) 1, pv (vb 6) 1, pv (vs 5) 1, pv (vb 6) 1], [2]⟩
def Fp102_14 := fs Fp102_12 [(24, vb 0), (25, vs 5), (26, vi 2), (27, vi 4), (28, bo .add (vi 2) (vi 4)), (29, ag [vb 0, vs 5, bo .add (vi 2) (vi 4)])]
def Rp102_15 : Rg := ⟨6, 7, 1, Fp102_12, Bp102_2, [pv (vb 0) 0, pv (vs 5) 0, pv (vi 2) 0, pv (vi 4) 0, pv (bo .add (vi 2) (vi 4)) 0, pv (ag [vb 0, vs 5, bo .add (vi 2) (vi 4)]) 0], []⟩
def Bp102_16 := [bb 25 [vb 0, vs 5, bo .add (vi 2) (vi 4)]]
theorem form_all {v : Value} {m : Nat} (neg : Bool) (x : Int) {w : World} (h : AN w v m) (hm : bl m ≤ 4294967296) (h1 : -1099511627776 ≤ x) (h2 : x ≤ 1099511627776) (hT : TB w) :
 Calls Tryz.prog 102 #[.bool neg, v, .int .i64 x] w fun en w' => ∃ v', en = .returned v' ∧ PDy w' w.heap.size v' (sgn neg m) x ∧ BL w w' := by
 obtain ⟨A0, n0, c0, rfl⟩ := h.ex
 have ht := h.trimmed
 refine fn_enter (u := 64) (fn := Tryz.f102) Tryz.func102 rfl Fp102_0 [.bool neg, .slice A0 n0 c0, .int .i64 x] (by kernel_rfl) rfl (fun a0 S0 r0 => ?_)
 refine wp_seq (rk Rp102_3 [] Fp102_1 Bp102_2 S0 r0 ?_)
 intro _ _ _ r1 S1
 refine wp_seq (rk Rp102_5 [.mv (vs 3)] Fp102_4 Bp102_2 S1 r1 ?_)
 intro _ _ r2 _
 refine (trim_n (h.below r2.first)).mono ?_
 rintro _ V1 ⟨rfl, k1⟩
 refine ⟨[.slice A0 (limbs m).length (limbs m).length], rfl, rfl, rfl, k1, ?_⟩
 intro _ _ _ r3 S3
 refine wp_seq ?_
 refine wp_seq (rk Rp102_7 [] Fp102_6 Bp102_2 S3 r3 ?_)
 intro _ _ _ r4 S4
 refine wp_cond_split (t := (((limbs m).length : Nat) : Int) == 0) (S4.cnd (by kernel_rfl)) (fun q1 => ?_) (fun q1 => ?_)
 · have hm0 : m = 0 := len_zero q1
   refine wp_seq (rk Rp102_9 [.st 0 0 o3] Fp102_8 Bp102_2 S4 r4 ?_)
   intro _ g5 W5 r5 S5
   exact wp_ret (then_ret (ret_ok S5 [.agg #[.bool false, .slice none 0 0, .int .i64 0]] (by kernel_rfl) (⟨_, rfl, by rw [hm0, sgn_zero]; exact .zero0 _ _ _, r5.first⟩)))
 · have hm0 : m ≠ 0 := fun h => by rw [h] at q1; simp [limbs] at q1
   refine wp_skip ?_
   refine wp_seq (rk Rp102_11 [] Fp102_10 Bp102_2 S4 r4 ?_)
   intro W5 g5 r5 _
   refine (low_n (ht.below r5.first) hm (tb hT r5)).mono ?_
   rintro _ V2 ⟨rfl, k2⟩
   refine ⟨[.int .i64 (tz m : Int)], rfl, rfl, rfl, k2, ?_⟩
   intro _ _ _ r6 S6
   refine wp_seq (rk Rp102_13 [] Fp102_12 Bp102_2 S6 r6 ?_)
   intro _ _ r7 _
   refine (shr_n _ (tz m) rfl (ht.below r7.first) hm (by have := tz_le_bl hm0; omega) (tb hT r7)).mono ?_
   rintro _ V3 ⟨v, rfl, h3, k3⟩
   obtain ⟨A3, n3, c3, rfl⟩ := h3.ex
   replace h3 := h3.lower r7.fs
   refine ⟨[.slice A3 n3 c3, .bool (m % 2 ^ (tz m) != 0)], rfl, rfl, rfl, k3, ?_⟩
   intro _ _ _ r8 S8
   refine wp_seq (rk Rp102_15 [.st 0 0 [vb 0, vs 5, bo .add (vi 2) (vi 4)]] Fp102_14 Bp102_16 S8 r8 ?_)
   intro _ _ _ r9 S9
   exact rt S9 [.agg #[.bool neg, .slice A3 n3 c3, .int .i64 (IntKind.i64.wrap (x + (tz m : Int)))]] (⟨_, rfl, .of_cells (h3.lat (r9.at_ 2 _ rfl)) hm0 (i64_id (by have := tz_le_bl hm0; omega) (by have := tz_le_bl hm0; omega)), r9.first⟩)
def ADy (w : World) (v : Value) (s : Bool) (m : Nat) (x : Int) : Prop := ∃ A n c, v = .agg #[.bool s, .slice A n c, .int .i64 x] ∧ AN w (.slice A n c) m
theorem ADy.below {w w1 : World} {s : Bool} {m : Nat} {x : Int} {v : Value} (h : ADy w v s m x) (hb : BL w w1) : ADy w1 v s m x := by
 obtain ⟨A, n, c, h1, h2⟩ := h; exact ⟨A, n, c, h1, h2.below hb⟩
theorem ADy.n {w : World} {s b : Bool} {m n c : Nat} {x y : Int} {A : Option Addr} (h : ADy w (.agg #[.bool b, .slice A n c, .int .i64 y]) s m x) : AN w (.slice A n c) m := by
 obtain ⟨A', n', c', h1, h2⟩ := h
 obtain ⟨_, e2, _⟩ := agg_inj h1
 obtain ⟨rfl, rfl, rfl⟩ := slice_inj e2
 exact h2
def Fit (m : Nat) (x : Int) : Bool := decide ((limbs m).length ≤ 1024 ∧ -32768 ≤ x ∧ x ≤ 32768)
theorem fit_if {m : Nat} {x : Int} : (if (if decide ((((limbs m).length : Nat) : Int) ≤ 1024) = true then decide (x ≥ -32768) else false) = true then decide (x ≤ 32768) else false) = Fit m x := by
 unfold Fit
 by_cases h1 : (limbs m).length ≤ 1024
 · rw [decide_eq_true (show (((limbs m).length : Nat) : Int) ≤ 1024 by omega), if_pos rfl]
   by_cases h2 : x ≥ -32768
   · rw [decide_eq_true h2, if_pos rfl]
     exact decide_eq_decide.2 ⟨fun h => ⟨h1, by omega, h⟩, fun h => h.2.2⟩
   · rw [decide_eq_false h2, decide_eq_false (p := (limbs m).length ≤ 1024 ∧ -32768 ≤ x ∧ x ≤ 32768) (by omega)]; rfl
 · rw [decide_eq_false (show ¬ (((limbs m).length : Nat) : Int) ≤ 1024 by omega), decide_eq_false (p := (limbs m).length ≤ 1024 ∧ -32768 ≤ x ∧ x ≤ 32768) (by omega)]; rfl
def Fp66_0 := [dg 0, U, U, U, U, U, U, U, U, U]
def Fp66_1 := fs Fp66_0 [(1, ps 0 0), (2, ps 1 0)]
def Bp66_2 := [bb 25 (d3 0), bb 25 o3]
def Rp66_3 : Rg := ⟨2, 3, 0, Fp66_0, Bp66_2, [pa 0 0, pa 1 0], []⟩
def Fp66_4 := fs Fp66_1 [(3, ps 0 0), (4, vb 0), (5, ps 0 1), (6, vs 1), (7, ps 0 2), (8, vi 2), (9, dg 3)]
def Rp66_5 : Rg := ⟨7, 3, 2, Fp66_1, Bp66_2, [pv (ps 0 0) 0, pl (vb 0) 0 0 0, pv (ps 0 1) 0, pl (vs 1) 0 0 1, pv (ps 0 2) 0, pl (vi 2) 0 0 2, pc (dg 3) 0 102 (d3 0) 3], [6]⟩
def Bp66_6 := [bb 25 (d3 0), bb 25 (d3 3)]
theorem one_all {v : Value} {s : Bool} {m : Nat} {x : Int} {w : World} (h : ADy w v s m x) (hm : bl m ≤ 4294967296) (h1 : -1099511627776 ≤ x) (h2 : x ≤ 1099511627776) (hT : TB w) :
 Calls Tryz.prog 66 #[v] w fun en w' => ∃ v', en = .returned v' ∧ PDy w' w.heap.size v' (sgn s m) x ∧ BL w w' := by
 obtain ⟨A0, n0, c0, rfl, h⟩ := h
 have h : ADy w (.agg #[.bool s, .slice A0 n0 c0, .int .i64 x]) s m x := ⟨_, _, _, rfl, h⟩
 refine fn_enter (u := 64) (fn := Tryz.f66) Tryz.func66 rfl Fp66_0 [.bool s, .slice A0 n0 c0, .int .i64 x] (by kernel_rfl) rfl (fun a0 S0 r0 => ?_)
 refine wp_seq (rk Rp66_3 [] Fp66_1 Bp66_2 S0 r0 ?_)
 intro _ _ _ r1 S1
 refine wp_seq (rk Rp66_5 [.st 1 0 (d3 3)] Fp66_4 Bp66_6 S1 r1 ?_)
 intro _ _ r2 _
 refine (form_all s x (h.below r2.first).n hm h1 h2 (tb hT r2)).mono ?_
 rintro _ V1 ⟨v, rfl, h1, k1⟩
 obtain ⟨b1, A1, n1, c1, x1, rfl⟩ := h1.ex
 replace h1 := h1.lower r2.fs
 refine ⟨[.bool b1, .slice A1 n1 c1, .int .i64 x1], rfl, rfl, rfl, k1, ?_⟩
 intro _ _ _ r3 S3
 exact rt S3 [.agg #[.bool b1, .slice A1 n1 c1, .int .i64 x1]] (⟨_, rfl, (h1.lat (r3.at_ 0 _ rfl)), r3.first⟩)
def Fp65_0 := [dg 0, U, U, U, U, U, U, U, U, U, U, U, U, U, U, U, U, U]
def Fp65_1 := fs Fp65_0 [(1, ps 0 0), (2, lb false)]
def Bp65_2 := [bb 25 (d3 0)]
def Rp65_3 : Rg := ⟨2, 3, 0, Fp65_0, Bp65_2, [pa 0 0, pv (lb false) 0], []⟩
def Fp65_4 := fs Fp65_1 [(2, pk (pk (bo .leq (f1 lnF (vs 3)) (li 1024)) (bo .geq (vi 2) (li (-32768))) (lb false)) (bo .leq (vi 2) (li 32768)) (lb false)), (3, ps 0 1), (4, vs 1), (5, vs 3), (6, f1 lnF (vs 3)), (7, bo .leq (f1 lnF (vs 3)) (li 1024)), (8, bo .leq (f1 lnF (vs 3)) (li 1024)), (9, gd true (bo .leq (f1 lnF (vs 3)) (li 1024)) (ps 0 2)), (10, gd true (bo .leq (f1 lnF (vs 3)) (li 1024)) (vi 2)), (11, gd true (bo .leq (f1 lnF (vs 3)) (li 1024)) (bo .geq (vi 2) (li (-32768)))), (12, pk (bo .leq (f1 lnF (vs 3)) (li 1024)) (bo .geq (vi 2) (li (-32768))) (lb false)), (13, pk (bo .leq (f1 lnF (vs 3)) (li 1024)) (bo .geq (vi 2) (li (-32768))) (lb false)), (14, gd true (pk (bo .leq (f1 lnF (vs 3)) (li 1024)) (bo .geq (vi 2) (li (-32768))) (lb false)) (ps 0 2)), (15, gd true (pk (bo .leq (f1 lnF (vs 3)) (li 1024)) (bo .geq (vi 2) (li (-32768))) (lb false)) (vi 2)), (16, gd true (pk (bo .leq (f1 lnF (vs 3)) (li 1024)) (bo .geq (vi 2) (li (-32768))) (lb false)) (bo .leq (vi 2) (li 32768))), (17, pk (pk (bo .leq (f1 lnF (vs 3)) (li 1024)) (bo .geq (vi 2) (li (-32768))) (lb false)) (bo .leq (vi 2) (li 32768)) (lb false))]
def Rp65_5 : Rg := ⟨16, 3, 1, Fp65_1, Bp65_2, [pv (ps 0 1) 0, pl (vs 1) 0 0 1, pc (vs 3) 0 109 [vs 1] 1, pv (f1 lnF (vs 3)) 1, pv (bo .leq (f1 lnF (vs 3)) (li 1024)) 1, pv (bo .leq (f1 lnF (vs 3)) (li 1024)) 1, ⟨ps 0 2, 1, [], .val, gd true (bo .leq (f1 lnF (vs 3)) (li 1024)) (ps 0 2)⟩, ⟨vi 2, 1, [], .ld 0 2, gd true (bo .leq (f1 lnF (vs 3)) (li 1024)) (vi 2)⟩, ⟨bo .geq (vi 2) (li (-32768)), 1, [], .val, gd true (bo .leq (f1 lnF (vs 3)) (li 1024)) (bo .geq (vi 2) (li (-32768)))⟩, ⟨pk (bo .leq (f1 lnF (vs 3)) (li 1024)) (bo .geq (vi 2) (li (-32768))) (lb false), 1, [], .pk, pk (bo .leq (f1 lnF (vs 3)) (li 1024)) (bo .geq (vi 2) (li (-32768))) (lb false)⟩, pv (pk (bo .leq (f1 lnF (vs 3)) (li 1024)) (bo .geq (vi 2) (li (-32768))) (lb false)) 1, ⟨ps 0 2, 1, [], .val, gd true (pk (bo .leq (f1 lnF (vs 3)) (li 1024)) (bo .geq (vi 2) (li (-32768))) (lb false)) (ps 0 2)⟩, ⟨vi 2, 1, [], .ld 0 2, gd true (pk (bo .leq (f1 lnF (vs 3)) (li 1024)) (bo .geq (vi 2) (li (-32768))) (lb false)) (vi 2)⟩, ⟨bo .leq (vi 2) (li 32768), 1, [], .val, gd true (pk (bo .leq (f1 lnF (vs 3)) (li 1024)) (bo .geq (vi 2) (li (-32768))) (lb false)) (bo .leq (vi 2) (li 32768))⟩, ⟨pk (pk (bo .leq (f1 lnF (vs 3)) (li 1024)) (bo .geq (vi 2) (li (-32768))) (lb false)) (bo .leq (vi 2) (li 32768)) (lb false), 1, [], .pk, pk (pk (bo .leq (f1 lnF (vs 3)) (li 1024)) (bo .geq (vi 2) (li (-32768))) (lb false)) (bo .leq (vi 2) (li 32768)) (lb false)⟩, pv (pk (pk (bo .leq (f1 lnF (vs 3)) (li 1024)) (bo .geq (vi 2) (li (-32768))) (lb false)) (bo .leq (vi 2) (li 32768)) (lb false)) 1], [2]⟩
theorem fits_all {v : Value} {s : Bool} {m : Nat} {x : Int} {w : World} (h : ADy w v s m x) :
 Calls Tryz.prog 65 #[v] w fun en w' => en = .returned (.bool (Fit m x)) ∧ BL w w' := by
 obtain ⟨A0, n0, c0, rfl, h⟩ := h
 have h : ADy w (.agg #[.bool s, .slice A0 n0 c0, .int .i64 x]) s m x := ⟨_, _, _, rfl, h⟩
 refine fn_enter (u := 64) (fn := Tryz.f65) Tryz.func65 rfl Fp65_0 [.bool s, .slice A0 n0 c0, .int .i64 x] (by kernel_rfl) rfl (fun a0 S0 r0 => ?_)
 refine wp_seq (rk Rp65_3 [] Fp65_1 Bp65_2 S0 r0 ?_)
 intro _ _ _ r1 S1
 refine wp_seq (rk Rp65_5 [] Fp65_4 Bp65_2 S1 r1 ?_)
 intro _ _ r2 _
 refine (trim_n (h.below r2.first).n).mono ?_
 rintro _ V1 ⟨rfl, k1⟩
 refine ⟨[.slice A0 (limbs m).length (limbs m).length], rfl, rfl, rfl, k1, ?_⟩
 intro _ _ _ r3 S3
 exact rt S3 [.bool (if if decide ((((limbs m).length : Nat) : Int) ≤ 1024) then decide (x ≥ (-32768)) else false then decide (x ≤ 32768) else false)] (⟨by rw [← fit_if]; rfl, r3.first⟩)
theorem CDy.any {w : World} {v : Value} {z e : Int} (h : CDy w v z e) : ADy w v (cneg z) (cman z) (cexp z e) := by
 obtain ⟨A, n, c, rfl, h1, h2, h3⟩ := h
 exact ⟨A, n, c, rfl, A, n, c, _, rfl, h1, h2, h3, wf_limbs _, nv_limbs _⟩
theorem fits_z {v : Value} {z e : Int} {w : World} (h : CDy w v z e) :
 Calls Tryz.prog 65 #[v] w fun en w' => en = .returned (.bool (Fit (cman z) (cexp z e))) ∧ BL w w' := fits_all h.any
def FitQ (q : Rat) : Prop := ∃ z e, q = Dv z e ∧ Fit (cman z) (cexp z e) = true
theorem same_form {z e y f : Int} (h : Dv z e = Dv y f) : cman z = cman y ∧ cexp z e = cexp y f ∧ cneg z = cneg y := by
 obtain ⟨g, i, j, rfl, rfl, _⟩ := Dv_common e f
 rw [← Dv_shift, ← Dv_shift] at h
 have h2 := Dv_inj h
 have a1 := cman_mul z i; have a2 := cexp_mul z g i; have a3 := cneg_mul z i
 rw [h2, cman_mul] at a1; rw [h2, cexp_mul] at a2; rw [h2, cneg_mul] at a3
 exact ⟨a1.symm, a2.symm, a3.symm⟩
theorem fitq_iff {z e : Int} : FitQ (Dv z e) ↔ Fit (cman z) (cexp z e) = true := by
 constructor
 · rintro ⟨y, f, h, hf⟩
   obtain ⟨h1, h2, _⟩ := same_form h
   rw [h1, h2]; exact hf
 · intro h; exact ⟨z, e, rfl, h⟩
theorem fits_q {v : Value} {q : Rat} {N : Nat} {w : World} (h : CQ w v q N) :
 Calls Tryz.prog 65 #[v] w fun en w' => ∃ r : Bool, en = .returned (.bool r) ∧ (r = true ↔ FitQ q) ∧ BL w w' := by
 obtain ⟨z, e, h, rfl, hB⟩ := h
 refine (fits_z h).mono ?_
 rintro en w' ⟨rfl, hb⟩
 exact ⟨_, rfl, fitq_iff.symm, hb⟩
theorem cmpQ_le {a b : Rat} : decide (cmpQ a b ≤ 0) = decide (a ≤ b) := by
 unfold cmpQ
 by_cases h : a < b
 · rw [if_pos h, decide_eq_true (Rat.le_of_lt h)]; rfl
 · rw [if_neg h]
   by_cases h' : b < a
   · rw [if_pos h', decide_eq_false (p := a ≤ b) (Rat.not_le.2 h')]; rfl
   · rw [if_neg h', decide_eq_true (Rat.not_lt.1 h')]; rfl
def Fq48_0 := [ig 0, U, U, U, U, U, U, U, U, U, U, U, U, U, U, U, U, U, U]
def Fq48_1 := fs Fq48_0 [(1, ps 0 0), (2, lb false)]
def Bq48_2 := [bb 28 (i6 0)]
def Rq48_3 : Rg := ⟨2, 6, 0, Fq48_0, Bq48_2, [pa 0 0, pv (lb false) 0], []⟩
def Fq48_4 := fs Fq48_1 [(2, pk (pk (vb 6) (vb 7) (lb false)) (bo .leq (vi 8) (li 0)) (lb false)), (3, ps 0 0), (4, dg 0), (5, vb 6), (6, vb 6), (7, gd true (vb 6) (ps 0 3)), (8, gd true (vb 6) (dg 3)), (9, gd true (vb 6) (vb 7)), (10, pk (vb 6) (vb 7) (lb false)), (11, pk (vb 6) (vb 7) (lb false)), (12, gd true (pk (vb 6) (vb 7) (lb false)) (ps 0 0)), (13, gd true (pk (vb 6) (vb 7) (lb false)) (dg 0)), (14, gd true (pk (vb 6) (vb 7) (lb false)) (ps 0 3)), (15, gd true (pk (vb 6) (vb 7) (lb false)) (dg 3)), (16, gd true (pk (vb 6) (vb 7) (lb false)) (vi 8)), (17, gd true (pk (vb 6) (vb 7) (lb false)) (bo .leq (vi 8) (li 0))), (18, pk (pk (vb 6) (vb 7) (lb false)) (bo .leq (vi 8) (li 0)) (lb false))]
def Rq48_5 : Rg := ⟨17, 6, 1, Fq48_1, Bq48_2, [pv (ps 0 0) 0, pl (dg 0) 0 0 0, pc (vb 6) 0 65 [dg 0] 1, pv (vb 6) 1, ⟨ps 0 3, 1, [], .val, gd true (vb 6) (ps 0 3)⟩, ⟨dg 3, 1, [], .ld 0 3, gd true (vb 6) (dg 3)⟩, ⟨vb 7, 1, [], .cl 1 65 [dg 3] 1 [], gd true (vb 6) (vb 7)⟩, ⟨pk (vb 6) (vb 7) (lb false), 2, [], .pk, pk (vb 6) (vb 7) (lb false)⟩, pv (pk (vb 6) (vb 7) (lb false)) 2, ⟨ps 0 0, 2, [], .val, gd true (pk (vb 6) (vb 7) (lb false)) (ps 0 0)⟩, ⟨dg 0, 2, [], .ld 0 0, gd true (pk (vb 6) (vb 7) (lb false)) (dg 0)⟩, ⟨ps 0 3, 2, [], .val, gd true (pk (vb 6) (vb 7) (lb false)) (ps 0 3)⟩, ⟨dg 3, 2, [], .ld 0 3, gd true (pk (vb 6) (vb 7) (lb false)) (dg 3)⟩, ⟨vi 8, 2, [], .cl 2 67 [dg 0, dg 3] 1 [], gd true (pk (vb 6) (vb 7) (lb false)) (vi 8)⟩, ⟨bo .leq (vi 8) (li 0), 3, [], .val, gd true (pk (vb 6) (vb 7) (lb false)) (bo .leq (vi 8) (li 0))⟩, ⟨pk (pk (vb 6) (vb 7) (lb false)) (bo .leq (vi 8) (li 0)) (lb false), 3, [], .pk, pk (pk (vb 6) (vb 7) (lb false)) (bo .leq (vi 8) (li 0)) (lb false)⟩, pv (pk (pk (vb 6) (vb 7) (lb false)) (bo .leq (vi 8) (li 0)) (lb false)) 3], [2, 6, 13]⟩
theorem right_q {v : Value} {a b : Rat} {N : Nat} {w : World} (h : CI w v a b N) (hN : N ≤ 33554432) (hT : TB w) :
 Calls Tryz.prog 48 #[v] w fun en w' => ∃ r : Bool, en = .returned (.bool r) ∧ (r = true ↔ FitQ a ∧ FitQ b ∧ a ≤ b) ∧ BL w w' := by
 obtain ⟨b0, A0, n0, c0, x0, d0, B0, m0, e0, y0, rfl⟩ := h.ex
 refine fn_enter (u := 64) (fn := Tryz.f48) Tryz.func48 rfl Fq48_0 [.bool b0, .slice A0 n0 c0, .int .i64 x0, .bool d0, .slice B0 m0 e0, .int .i64 y0] (by kernel_rfl) rfl (fun a0 S0 r0 => ?_)
 refine wp_seq (rk Rq48_3 [] Fq48_1 Bq48_2 S0 r0 ?_)
 intro _ _ _ r1 S1
 refine wp_seq (rk Rq48_5 [] Fq48_4 Bq48_2 S1 r1 ?_)
 intro _ _ r2 _
 refine (fits_q (h.below r2.first).lo).mono ?_
 rintro _ V1 ⟨ra, rfl, hra, k1⟩
 refine ⟨[.bool ra], rfl, rfl, rfl, k1, ?_⟩
 refine ⟨fun c3 => ?_, fun c3 => ?_⟩
 · replace c3 := yv (b := ra) c3
   intro _ _ r4 _
   refine (fits_q (h.below r4.first).hi).mono ?_
   rintro _ V2 ⟨rb, rfl, hrb, k2⟩
   refine ⟨[.bool rb], rfl, rfl, rfl, k2, ?_⟩
   refine ⟨fun c5 => ?_, fun c5 => ?_⟩
   · replace c5 := yv (b := if ra then rb else false) c5
     intro W6 g6 r6 _
     refine (cmp_q (h.below r6.first).lo (h.below r6.first).hi (by omega) (tb hT r6)).mono ?_
     rintro _ V3 ⟨rfl, k3⟩
     refine ⟨[.int .i64 (cmpQ a b)], rfl, rfl, rfl, k3, ?_⟩
     intro _ _ _ r7 S7
     exact rt S7 [.bool (if if ra then rb else false then decide ((cmpQ a b) ≤ 0) else false)] (⟨_, rfl, by rw [c5, if_pos rfl, cmpQ_le]; exact ⟨fun h => ⟨hra.1 c3, hrb.1 (by rw [c3, if_pos rfl] at c5; exact c5), of_decide_eq_true h⟩, fun h => decide_eq_true h.2.2⟩, r7.first⟩)
   · replace c5 := yn (b := if ra then rb else false) c5
     intro _ g6 W6 r6 S6
     exact rt S6 [.bool (if if ra then rb else false then decide (0 ≤ 0) else false)] (⟨_, rfl, by rw [c5, if_neg (by decide)]; exact ⟨fun h => absurd h (by decide), fun h => by rw [c3, if_pos rfl, hrb.2 h.2.1] at c5; cases c5⟩, r6.first⟩)
 · replace c3 := yn (b := ra) c3
   refine ⟨fun c4 => ?_, fun c4 => ?_⟩
   · replace c4 := yv (b := if ra then false else false) c4
     rw [c3, if_neg (by decide)] at c4; cases c4
   · replace c4 := yn (b := if ra then false else false) c4
     intro _ _ _ r5 S5
     exact rt S5 [.bool (if if ra then false else false then decide (0 ≤ 0) else false)] (⟨_, rfl, by rw [c3]; exact ⟨fun h => absurd h (by decide), fun h => by rw [hra.2 h.1] at c3; cases c3⟩, r5.first⟩)
theorem top_ab {v : Value} {q : Rat} {N : Nat} {w : World} (h : CQ w v q N) (h0 : q ≠ 0) (hN : N ≤ 67108864) :
 Calls Tryz.prog 80 #[v] w fun en w' => ∃ T : Int, en = .returned (.int .i64 T) ∧ (2 : Rat) ^ T ≤ ab q ∧ ab q < (2 : Rat) ^ (T + 1) ∧ -67108865 ≤ T ∧ T ≤ 268435456 ∧ BL w w' := by
 obtain ⟨z, e, h, rfl, hB⟩ := h
 have l := bd_len hB; have lo := bd_lo hB; have hi := bd_hi hB
 have hbl : bl (cman z) ≤ N := bl_le_iff.2 (bd_man hB)
 have hz : z ≠ 0 := fun hz => h0 (by rw [hz, Dv_zero])
 obtain ⟨h1, h2⟩ := top_pure (z := (z.natAbs : Int)) (e := e) (by omega)
 rw [cman_abs, cexp_abs] at h1 h2
 refine (ptop_dy v z e w h (by omega) (by omega) (by omega)).mono ?_
 rintro en w' ⟨rfl, hb⟩
 rw [ab_Dv]
 exact ⟨_, rfl, h1, h2, by omega, by omega, hb⟩
structure Le1 (k : Nat) (t l u : Rat) : Prop where
 encl : ∃ a b, Exs a b t ∧ l ≤ a - 1 ∧ b - 1 ≤ u
 pos : 0 < t → Nar l u (ep k)
 neg : t < 0 → Nar (-u) (-l) (ep k)
theorem ep_six {a b k : Nat} (ha : k + 3 ≤ a) (hb : k + 3 ≤ b) : ep a + 5 * ep b ≤ ep k := by
 have h1 := ep_le ha
 have h2 := ep_le hb
 have h3 := eight_ep k
 have h4 := ep_pos (k + 3)
 generalize ep a = A at *
 generalize ep b = B at *
 generalize ep (k + 3) = C at *
 generalize ep k = D at *
 grind
theorem ep_three {a b k : Nat} (ha : k + 3 ≤ a) (hb : k + 3 ≤ b) : ep a + 2 * ep b ≤ ep k := by
 have h1 := ep_six ha hb
 have h2 := ep_pos b
 generalize ep a = A at *
 generalize ep b = B at *
 generalize ep k = D at *
 grind
theorem ep_1024 (p : Nat) : 1024 * ep (p + 10) = ep p := by
 have := ep_add p 10
 rw [show ((2 ^ 10 : Nat) : Rat) = 1024 by decide +kernel] at this
 exact this
theorem ep8 {p : Nat} (h : 4 ≤ p) : 8 * ep p ≤ 1 := by
 have h1 := eight_ep (p - 3)
 rw [show p - 3 + 3 = p by omega] at h1
 rw [h1]; exact ep_small (by omega)
theorem le1_big {p : Nat} {t l0 u0 l u : Rat} (n : Enc l0 u0 t (ep (p + 73))) (ht : 1 ≤ 256 * ab t) (hl : CutOf false (l0 + -1) l (ep (p + 40))) (hu : CutOf true (u0 + -1) u (ep (p + 40))) : Le1 (p + 30) t l u := by
 have e1 : 1024 * ep (p + 73) = ep (p + 63) := by have := ep_1024 (p + 63); rwa [show p + 63 + 10 = p + 73 by omega] at this
 have e2 : 1024 * ep (p + 73) ≤ 1 := by rw [e1]; exact ep_small (by omega)
 have c1 : l ≤ l0 - 1 := by have := hl.le; grind
 have c2 : u0 - 1 ≤ u := by have := hu.ge; grind
 refine ⟨⟨l0, u0, n.1, c1, c2⟩, fun hp => ?_, fun hn => ?_⟩
 · rw [ab_pos (Rat.le_of_lt hp)] at ht
   have m := n.less_pos ht (Rat.le_of_lt (ep_pos _)) e2
   rw [e1] at m
   have d1 := hl.1 (by have := m.1; grind)
   have d2 := hu.1 (by have := m.1; have := n.1.2.1; grind)
   refine (Nar.cut (lo := l0 - 1) (hi := u0 - 1) m (by rw [show l0 - 1 = l0 + -1 by grind]; exact d1) (by rw [show u0 - 1 = u0 + -1 by grind]; exact d2) (Rat.le_of_lt (ep_pos _)) (ep_small (by omega)) (Rat.le_of_lt (ep_pos _)) (ep8 (by omega))).more (ep_six (by omega) (by omega))
 · rw [ab_neg (Rat.le_of_lt hn)] at ht
   have m := n.less_neg (by grind) (Rat.le_of_lt (ep_pos _)) e2
   rw [e1] at m
   have d1 := hl.2 (by have := m.1; have := n.1.2.1; grind)
   have d2 := hu.2 (by have := m.1; grind)
   refine (Nar.cut (lo := 1 - u0) (hi := 1 - l0) m (by rw [show 1 - u0 = -(u0 + -1) by grind]; exact d2) (by rw [show 1 - l0 = -(l0 + -1) by grind]; exact d1) (Rat.le_of_lt (ep_pos _)) (ep_small (by omega)) (Rat.le_of_lt (ep_pos _)) (ep8 (by omega))).more (ep_six (by omega) (by omega))
structure Lsm (p : Nat) (a l u : Rat) : Prop where
 ex : ∃ lo hi, Ex (1 + a * lo) (1 + a * hi) a ∧ 1 ≤ lo ∧ l ≤ a * lo ∧ a * hi ≤ u ∧ a * hi < 1 ∧ lo ≤ hi
 nar : Nar l u (ep (p + 46))
 le : l ≤ u
theorem four_pt {a lo hi x y : Rat} (ha : 0 < a) (h : lo ≤ hi) (f : Four (mul4 a a lo hi) x y) : x = a * lo ∧ y = a * hi := by
 obtain ⟨i, j, hi', hj, hq, rfl, rfl⟩ := f
 have e := Rat.mul_le_mul_of_nonneg_left h (Rat.le_of_lt ha)
 have lo' : ∀ k, a * lo ≤ mul4 a a lo hi k ∧ mul4 a a lo hi k ≤ a * hi := fun k => by
  unfold mul4; split
  · exact ⟨Rat.le_refl, e⟩
  · exact ⟨e, Rat.le_refl⟩
  · exact ⟨Rat.le_refl, e⟩
  · exact ⟨e, Rat.le_refl⟩
 exact ⟨Rat.le_antisymm (hq 0 (by decide)).1 (lo' i).1, Rat.le_antisymm (lo' j).2 (hq 3 (by decide)).2⟩
theorem lsm_of {p : Nat} {a lo hi l u : Rat} (ha : 0 < a) (ha2 : 256 * a ≤ 1) (s : Sml 1 (p + 64) a lo hi) (h : ∃ x y, Four (mul4 a a lo hi) x y ∧ CutOf false x l (ep (p + 64)) ∧ CutOf true y u (ep (p + 64))) : Lsm p a l u := by
 obtain ⟨x, y, f, c1, c2⟩ := h
 obtain ⟨rfl, rfl⟩ := four_pt ha s.le f
 have hn : Nar lo hi (ep (p + 50)) := by
  have h1 := s.nar
  rw [show p + 64 - 14 = p + 50 by omega] at h1
  have h2 := Rat.mul_le_mul_of_nonneg_right s.one (Rat.le_of_lt (ep_pos (p + 50)))
  exact ⟨by have := s.one; grind, by grind⟩
 have hs := hn.scale ha
 have l0 := hs.1
 have hle := Rat.mul_le_mul_of_nonneg_left s.le (Rat.le_of_lt ha)
 have d1 := c1.1 (Rat.le_of_lt l0)
 have d2 := c2.1 (Rat.le_trans (Rat.le_of_lt l0) hle)
 have hnar := (Nar.cut hs d1 d2 (Rat.le_of_lt (ep_pos _)) (ep_small (by omega)) (Rat.le_of_lt (ep_pos _)) (ep8 (by omega))).more (d' := ep (p + 46)) (ep_six (by omega) (by omega))
 refine ⟨⟨lo, hi, Ex.less (Rat.le_of_lt ha) s.encl, s.one, d1.1, d2.1, ?_, s.le⟩, hnar, Rat.le_trans d1.1 (Rat.le_trans hle d2.1)⟩
 have h3 : hi ≤ 3 := by
  have h1 := s.nar; have := s.two
  have := ep_small (p := p + 64 - 14) (by omega)
  grind
 have h4 := Rat.mul_le_mul_of_nonneg_left h3 (Rat.le_of_lt ha)
 grind
theorem le1_small {p : Nat} {a l u : Rat} (ha : 0 < a) (s : Lsm p a l u) : Le1 (p + 30) a l u := by
 obtain ⟨⟨lo, hi, h1, h2, h3, h4, h5, h6⟩, hn, _⟩ := s
 have hlo := Rat.mul_le_mul_of_nonneg_left h6 (Rat.le_of_lt ha)
 have hp : 0 ≤ a * lo := Rat.mul_nonneg (Rat.le_of_lt ha) (by grind)
 exact ⟨⟨1 + a * lo, 1 + a * hi, ⟨by grind, by grind, .inl ⟨Rat.le_of_lt ha, h1⟩⟩, by grind, by grind⟩, fun _ => hn.more (ep_le (by omega)), fun h => absurd h (by grind)⟩
theorem le1_neg {p : Nat} {a l u e1 e2 l3 u3 : Rat} (ha : 0 < a) (s : Lsm p a l u) (b : Ab (p + 50) a e1 e2) (c1 : CutOf false (l * e2⁻¹) l3 (ep (p + 64))) (c2 : CutOf true (u * e1⁻¹) u3 (ep (p + 64))) : Le1 (p + 30) (-a) (-u3) (-l3) := by
 obtain ⟨⟨lo, hi, h1, h2, h3, h4, h5, h6⟩, hn, hlu⟩ := s
 obtain ⟨m, hm1, hm2, hm3⟩ : ∃ m, 1 ≤ m ∧ e1 ≤ m ∧ Ex m e2 a := by
  by_cases h : e1 ≤ 1
  · refine ⟨1, Rat.le_refl, h, ?_⟩
    obtain ⟨n0, hn0⟩ := b.ex
    refine ⟨n0 + 1, fun n hn' => ⟨?_, (hn0 n (by omega)).2⟩⟩
    obtain ⟨n', rfl⟩ : ∃ n', n = n' + 1 := ⟨n - 1, by omega⟩
    exact sm_one (Rat.le_of_lt ha) n'
  · exact ⟨e1, by grind, Rat.le_refl, b.ex⟩
 have lo0 : 0 < a * lo := Rat.mul_pos ha (by grind)
 have p1 := b.nar.1
 have p2 : 0 < e2 := by have := b.le; grind
 have q := Exs.of_quot (Rat.le_of_lt ha) h1 hm3 lo0 hm1 (by grind)
 have i1 : m⁻¹ ≤ e1⁻¹ := inv_le p1 hm2
 have i0 : 0 < m⁻¹ := Rat.inv_pos.2 (by grind)
 have j0 : 0 < e2⁻¹ := Rat.inv_pos.2 p2
 have k1 : a * hi * m⁻¹ ≤ u * e1⁻¹ := mul_le h4 i1 (by have := Rat.mul_le_mul_of_nonneg_left h6 (Rat.le_of_lt ha); grind) (by have := Rat.inv_pos.2 p1; grind)
 have k2 : l * e2⁻¹ ≤ a * lo * e2⁻¹ := Rat.mul_le_mul_of_nonneg_right h3 (Rat.le_of_lt j0)
 refine ⟨⟨_, _, q, by have := c2.ge; grind, by have := c1.le; grind⟩, fun h => absurd h (by grind), fun _ => ?_⟩
 rw [Rat.neg_neg, Rat.neg_neg]
 have n1 := hn.over b.nar b.le (Rat.le_trans (Rat.le_of_lt hn.1) hlu) (Rat.le_of_lt (ep_pos _)) (ep_small (by omega)) (Rat.le_of_lt (ep_pos _))
 have n2 := n1.more (d' := ep (p + 40)) (ep_three (by omega) (by omega))
 have d1 := c1.1 (Rat.le_of_lt n2.1)
 have d2 := c2.1 (by have := Rat.inv_pos.2 p1; exact Rat.mul_nonneg (Rat.le_trans (Rat.le_of_lt hn.1) hlu) (Rat.le_of_lt this))
 exact (Nar.cut n2 d1 d2 (Rat.le_of_lt (ep_pos _)) (ep_small (by omega)) (Rat.le_of_lt (ep_pos _)) (ep8 (by omega))).more (ep_six (by omega) (by omega))
theorem bd_zero (N : Nat) : Bd N 0 0 := ⟨Nat.two_pow_pos N, by omega, by omega⟩
theorem top_big {a : Rat} {T : Int} (h : (2 : Rat) ^ T ≤ a) (hT : T ≥ -8) : 1 ≤ 256 * a := by
 have h1 := pw_mono (a := -8) (b := T) (by omega)
 have e8 : (256 : Rat) * (2 : Rat) ^ (-8 : Int) = 1 := by decide +kernel
 have := Rat.mul_le_mul_of_nonneg_left (Rat.le_trans h1 h) (show (0 : Rat) ≤ 256 by decide +kernel)
 rw [e8] at this; exact this
theorem top_small {a : Rat} {T : Int} (h : a < (2 : Rat) ^ (T + 1)) (hT : T < -8) : 256 * a ≤ 1 := by
 have h1 := pw_mono (a := T + 1) (b := -8) (by omega)
 have e8 : (256 : Rat) * (2 : Rat) ^ (-8 : Int) = 1 := by decide +kernel
 have := Rat.mul_le_mul_of_nonneg_left (Rat.le_trans (Rat.le_of_lt h) h1) (show (0 : Rat) ≤ 256 by decide +kernel)
 rw [e8] at this; exact this
theorem ab_ne {t : Rat} (h : t ≠ 0) : 0 < ab t := by unfold ab; split <;> grind
def Fs39_0 := [dg 0, vi 3, U, U, U, U, U, U, U, U, U, U, U, U, U, U, U, U, U, U, U, U, U, U, U, U, U, U, U, U, U, U, U, U, U, U, U, U, U, U, U, U, U, U, U]
def Fs39_1 := fs Fs39_0 [(2, ps 0 0), (4, ps 1 0)]
def Bs39_2 := [bb 25 (d3 0), bb 28 o6]
def Rs39_3 : Rg := ⟨2, 4, 0, Fs39_0, Bs39_2, [pa 0 0, pa 1 0], []⟩
def Fs39_4 := fs Fs39_1 [(7, vb 4), (8, dg 0), (9, vb 4)]
def Rs39_5 : Rg := ⟨3, 4, 2, Fs39_1, Bs39_2, [pl (dg 0) 0 0 0, pc (vb 4) 0 79 [dg 0] 1, pv (vb 4) 1], [1]⟩
def Fs39_6 := fs Fs39_4 [(10, ag o6)]
def Rs39_7 : Rg := ⟨1, 5, 2, Fs39_4, Bs39_2, [pv (ag o6) 0], []⟩
def Fs39_8 := fs Fs39_4 [(11, bo .geq (vi 5) (li (-8))), (12, dg 0), (13, vi 5), (14, bo .geq (vi 5) (li (-8)))]
def Rs39_9 : Rg := ⟨4, 5, 2, Fs39_4, Bs39_2, [pl (dg 0) 0 0 0, pc (vi 5) 0 80 [dg 0] 1, pv (bo .geq (vi 5) (li (-8))) 1, pv (bo .geq (vi 5) (li (-8))) 1], [1]⟩
def Fs39_10 := fs Fs39_8 [(15, dg 0), (16, vi 3), (17, bo .add (vi 3) (li 24)), (18, ig 6), (19, ig 12), (20, vi 3), (21, bo .add (vi 3) (li 40)), (22, ig 18)]
def Rs39_11 : Rg := ⟨8, 6, 2, Fs39_8, Bs39_2, [pl (dg 0) 0 0 0, pv (vi 3) 0, pv (bo .add (vi 3) (li 24)) 0, pc (ig 6) 0 33 [dg 0, bo .add (vi 3) (li 24)] 6, pc (ig 12) 1 73 [] 6, pv (vi 3) 0, pv (bo .add (vi 3) (li 40)) 0, pc (ig 18) 2 81 [ig 6, ig 12, bo .add (vi 3) (li 40)] 6], [3, 4, 7]⟩
def Bs39_12 := [bb 25 (d3 0), bb 28 (i6 18)]
def Fs39_13 := fs Fs39_8 [(5, bo .add (vi 3) (li 64)), (23, vi 3), (24, bo .add (vi 3) (li 64))]
def Rs39_14 : Rg := ⟨3, 6, 2, Fs39_8, Bs39_2, [pv (vi 3) 0, pv (bo .add (vi 3) (li 64)) 0, pv (bo .add (vi 3) (li 64)) 0], []⟩
def Fs39_15 := fs Fs39_13 [(6, ps 2 0), (25, dg 0), (26, dg 6), (27, ig 9), (28, dg 0), (29, dg 15), (30, bo .add (vi 3) (li 64)), (31, ig 18), (32, bo .add (vi 3) (li 64)), (33, ig 24)]
def Bs39_16 := [bb 25 (d3 0), bb 28 o6, bb 28 o6]
def Rs39_17 : Rg := ⟨10, 6, 2, Fs39_13, Bs39_16, [pl (dg 0) 0 0 0, pc (dg 6) 0 68 [dg 0] 3, pc (ig 9) 1 83 [dg 6] 6, pl (dg 0) 0 0 0, pc (dg 15) 2 68 [dg 0] 3, pv (bo .add (vi 3) (li 64)) 0, pc (ig 18) 3 84 [dg 15, bo .add (vi 3) (li 64), li 1] 6, pv (bo .add (vi 3) (li 64)) 0, pc (ig 24) 4 82 [ig 9, ig 18, bo .add (vi 3) (li 64)] 6, pa 2 0], [1, 2, 4, 6, 8]⟩
def Bs39_18 := [bb 25 (d3 0), bb 28 o6, bb 28 (i6 24)]
def Fs39_19 := fs Fs39_15 [(34, ps 0 0), (35, vb 0)]
def Rs39_20 : Rg := ⟨2, 30, 3, Fs39_15, Bs39_18, [pv (ps 0 0) 0, pl (vb 0) 0 0 0], []⟩
def Fs39_21 := fs Fs39_19 [(36, ig 24), (37, dg 0), (38, dg 30), (39, vi 3), (40, ig 33), (41, bo .add (vi 3) (li 64)), (42, ig 39), (43, ig 45)]
def Rs39_22 : Rg := ⟨8, 30, 3, Fs39_19, Bs39_18, [pl (ig 24) 0 2 0, pl (dg 0) 0 0 0, pc (dg 30) 0 68 [dg 0] 3, pv (vi 3) 0, pc (ig 33) 1 71 [dg 30, vi 3] 6, pv (bo .add (vi 3) (li 64)) 0, pc (ig 39) 2 72 [ig 24, ig 33, bo .add (vi 3) (li 64)] 6, pc (ig 45) 3 85 [ig 39] 6], [2, 4, 6, 7]⟩
def Bs39_23 := [bb 25 (d3 0), bb 28 (i6 45), bb 28 (i6 24)]
def Fs39_24 := fs Fs39_19 [(44, ig 24)]
def Rs39_25 : Rg := ⟨1, 30, 3, Fs39_19, Bs39_18, [pl (ig 24) 0 2 0], []⟩
def Bs39_26 := [bb 25 (d3 0), bb 28 (i6 24), bb 28 (i6 24)]
theorem eless_q {v : Value} {t : Rat} {N p : Nat} {w : World} (h : CQ w v t N) (ht : -16384 ≤ t) (ht2 : t ≤ 16384) (hN : N ≤ 131072) (hp : 8 ≤ p) (hp2 : p ≤ 4900) (hT : TB w) :
 Calls Tryz.prog 39 #[v, .int .i64 (p : Int)] w fun en w' => ∃ v' l u, en = .returned v' ∧ PI w' w.heap.size v' l u 1000000 ∧ ((t = 0 ∧ l = 0 ∧ u = 0) ∨ (t ≠ 0 ∧ Le1 (p + 30) t l u)) ∧ BL w w' := by
 obtain ⟨z, e, hz, rfl, hB⟩ := h
 have h : CQ w v (Dv z e) N := ⟨z, e, hz, rfl, hB⟩
 obtain ⟨t, et⟩ : ∃ t, t = Dv z e := ⟨_, rfl⟩
 rw [← et] at ht ht2 h ⊢
 obtain ⟨b0, A0, n0, c0, x0, rfl⟩ := h.ex
 have hb0 := (CDy.cells hz).1
 have hw24 : IntKind.i64.wrap ((p : Int) + 24) = ((p + 24 : Nat) : Int) := i64_id (by omega) (by omega)
 have hw40 : IntKind.i64.wrap ((p : Int) + 40) = ((p + 40 : Nat) : Int) := i64_id (by omega) (by omega)
 have hw64 : IntKind.i64.wrap ((p : Int) + 64) = ((p + 64 : Nat) : Int) := i64_id (by omega) (by omega)
 refine fn_enter (u := 64) (fn := Tryz.f39) Tryz.func39 rfl Fs39_0 [.bool b0, .slice A0 n0 c0, .int .i64 x0, .int .i64 (p : Int)] (by kernel_rfl) rfl (fun a0 S0 r0 => ?_)
 refine wp_seq (rk Rs39_3 [] Fs39_1 Bs39_2 S0 r0 ?_)
 intro _ _ _ r1 S1
 refine wp_seq ?_
 refine wp_block ?_
 refine wp_seq (rk Rs39_5 [] Fs39_4 Bs39_2 S1 r1 ?_)
 intro _ _ r2 _
 refine (zero_q (h.below r2.first) (by omega)).mono ?_
 rintro _ V1 ⟨rfl, k1⟩
 refine ⟨[.bool (decide (t = 0))], rfl, rfl, rfl, k1, ?_⟩
 intro _ _ _ r3 S3
 refine wp_cond_split (t := (decide (t = 0))) (S3.cnd (by kernel_rfl)) (fun q1 => ?_) (fun q1 => ?_)
 · have h0 : t = 0 := of_decide_eq_true q1
   refine wp_seq (rk Rs39_7 [.st 1 0 o6] Fs39_6 Bs39_2 S3 r3 ?_)
   intro _ g4 W4 r4 S4
   exact wp_ret (blk_ret (then_ret (ret_ok S4 [.agg #[.bool false, .slice none 0 0, .int .i64 0, .bool false, .slice none 0 0, .int .i64 0]] (by kernel_rfl) (⟨_, _, _, rfl, .mk ⟨0, 0, .zero0 _ _ _, (Dv_zero 0).symm, bd_zero _⟩ ⟨0, 0, .zero0 _ _ _, (Dv_zero 0).symm, bd_zero _⟩, .inl ⟨h0, rfl, rfl⟩, r4.first⟩))))
 · have h0 : t ≠ 0 := of_decide_eq_false q1
   refine wp_seq (rk Rs39_9 [] Fs39_8 Bs39_2 S3 r3 ?_)
   intro W4 g4 r4 _
   refine (top_ab (h.below r4.first) h0 (by omega)).mono ?_
   rintro _ V2 ⟨T, rfl, t1, t2, t3, t4, k2⟩
   refine ⟨[.int .i64 T], rfl, rfl, rfl, k2, ?_⟩
   intro _ _ _ r5 S5
   refine wp_cond_split (t := decide (T ≥ (-8))) (S5.cnd (by kernel_rfl)) (fun q2 => ?_) (fun q2 => ?_)
   · have hbig := top_big t1 (of_decide_eq_true q2)
     refine wp_seq (rk Rs39_11 [.st 1 0 (i6 18)] Fs39_10 Bs39_12 S5 r5 ?_)
     intro W6 g6 r6 _
     show Calls Tryz.prog 33 #[.agg #[.bool b0, .slice A0 n0 c0, .int .i64 x0], .int .i64 (IntKind.i64.wrap ((p : Int) + 24))] W6 _
     rw [hw24]
     refine (power_q (p := p + 24) (h.below r6.first) ht ht2 (by omega) (by omega) (by omega) (tb hT r6)).mono ?_
     rintro _ V3 ⟨v, l, u, rfl, h3, f3, k3⟩
     obtain ⟨b3, A3, n3, c3, x3, d3, B3, m3, e3, y3, rfl⟩ := h3.ex
     replace h3 := h3.lower r6.fs
     refine ⟨[.bool b3, .slice A3 n3 c3, .int .i64 x3, .bool d3, .slice B3 m3 e3, .int .i64 y3], rfl, rfl, rfl, k3, ?_⟩
     intro W7 g7 r7 _
     refine (eone_q _ (tb hT r7)).mono ?_
     rintro _ V4 ⟨v, rfl, h4, k4⟩
     obtain ⟨b4, A4, n4, c4, x4, d4, B4, m4, e4, y4, rfl⟩ := h4.ex
     replace h4 := h4.lower r7.fs
     refine ⟨[.bool b4, .slice A4 n4 c4, .int .i64 x4, .bool d4, .slice B4 m4 e4, .int .i64 y4], rfl, rfl, rfl, k4, ?_⟩
     intro W8 g8 r8 _
     show Calls Tryz.prog 81 #[.agg #[.bool b3, .slice A3 n3 c3, .int .i64 x3, .bool d3, .slice B3 m3 e3, .int .i64 y3], .agg #[.bool b4, .slice A4 n4 c4, .int .i64 x4, .bool d4, .slice B4 m4 e4, .int .i64 y4], .int .i64 (IntKind.i64.wrap ((p : Int) + 40))] W8 _
     rw [hw40]
     refine (less_q (p := p + 40) (h3.lat (r8.at_ 2 _ rfl)).c (h4.lat (r8.at_ 3 _ rfl)).c (by decide) (by omega) (by omega) (tb hT r8)).mono ?_
     rintro _ V5 ⟨v, l', u', rfl, h5, d1, d2, s1, s2, k5⟩
     obtain ⟨b5, A5, n5, c5, x5, d5, B5, m5, e5, y5, rfl⟩ := h5.ex
     replace h5 := h5.lower r8.fs
     refine ⟨[.bool b5, .slice A5 n5 c5, .int .i64 x5, .bool d5, .slice B5 m5 e5, .int .i64 y5], rfl, rfl, rfl, k5, ?_⟩
     intro _ g9 W9 r9 S9
     exact wp_ret (blk_ret (then_ret (ret_ok S9 [.agg #[.bool b5, .slice A5 n5 c5, .int .i64 x5, .bool d5, .slice B5 m5 e5, .int .i64 y5]] (by kernel_rfl) (⟨_, _, _, rfl, (h5.lat (r9.at_ 4 _ rfl)).more (by omega), .inr ⟨h0, le1_big (by rw [show p + 73 = p + 24 + 49 by omega]; exact f3) hbig d1 d2⟩, r9.first⟩))))
   · have ha2 := top_small t2 (by have := of_decide_eq_false q2; omega)
     have hap : 0 < ab t := ab_ne h0
     refine wp_skip ?_
     refine wp_seq (rk Rs39_14 [] Fs39_13 Bs39_2 S5 r5 ?_)
     intro _ g6 W6 r6 S6
     refine wp_seq (rk Rs39_17 [.st 2 0 (i6 24)] Fs39_15 Bs39_18 S6 r6 ?_)
     intro W7 g7 r7 _
     refine (abs_q (h.below r7.first) (by omega) (tb hT r7)).mono ?_
     rintro _ V6 ⟨v, rfl, ha1, k6⟩
     obtain ⟨b6, A6, n6, c6, x6, rfl⟩ := ha1.ex
     replace ha1 := ha1.lower r7.fs
     refine ⟨[.bool b6, .slice A6 n6 c6, .int .i64 x6], rfl, rfl, rfl, k6, ?_⟩
     intro W8 g8 r8 _
     refine (point_q (ha1.lat (r8.at_ 2 _ rfl)).c (by omega) (tb hT r8)).mono ?_
     rintro _ V7 ⟨v, rfl, ha3, k7⟩
     obtain ⟨b7, A7, n7, c7, x7, d7, B7, m7, e7, y7, rfl⟩ := ha3.ex
     replace ha3 := ha3.lower r8.fs
     refine ⟨[.bool b7, .slice A7 n7 c7, .int .i64 x7, .bool d7, .slice B7 m7 e7, .int .i64 y7], rfl, rfl, rfl, k7, ?_⟩
     intro W9 g9 r9 _
     refine (abs_q (h.below r9.first) (by omega) (tb hT r9)).mono ?_
     rintro _ V8 ⟨v, rfl, ha4, k8⟩
     obtain ⟨b8, A8, n8, c8, x8, rfl⟩ := ha4.ex
     replace ha4 := ha4.lower r9.fs
     refine ⟨[.bool b8, .slice A8 n8 c8, .int .i64 x8], rfl, rfl, rfl, k8, ?_⟩
     intro W10 _ r10 _
     show Calls Tryz.prog 84 #[.agg #[.bool b8, .slice A8 n8 c8, .int .i64 x8], .int .i64 (IntKind.i64.wrap ((p : Int) + 64)), .int .i64 1] W10 _
     rw [hw64]
     refine (small_q (q := p + 64) (m := 1) (ha4.lat (r10.at_ 4 _ rfl)).c (ab_nonneg t) ha2 (by omega) (by omega) (by omega) (by decide) (tb hT r10)).mono ?_
     rintro _ V9 ⟨v, lo, hi, rfl, ha5, hs6, k9⟩
     obtain ⟨b9, A9, n9, c9, x9, d9, B9, m9, e9, y9, rfl⟩ := ha5.ex
     replace ha5 := ha5.lower r10.fs
     refine ⟨[.bool b9, .slice A9 n9 c9, .int .i64 x9, .bool d9, .slice B9 m9 e9, .int .i64 y9], rfl, rfl, rfl, k9, ?_⟩
     intro W11 _ r11 _
     show Calls Tryz.prog 82 #[.agg #[.bool b7, .slice A7 n7 c7, .int .i64 x7, .bool d7, .slice B7 m7 e7, .int .i64 y7], .agg #[.bool b9, .slice A9 n9 c9, .int .i64 x9, .bool d9, .slice B9 m9 e9, .int .i64 y9], .int .i64 (IntKind.i64.wrap ((p : Int) + 64))] W11 _
     rw [hw64]
     refine (times_q (p := p + 64) (ha3.lat (r11.at_ 3 _ rfl)).c (ha5.lat (r11.at_ 5 _ rfl)).c (by omega) (by omega) (by omega) (tb hT r11)).mono ?_
     rintro _ V10 ⟨v, l, u, rfl, hq, hf, sq1, sq2, k10⟩
     obtain ⟨b10, A10, n10, c10, x10, d10, B10, m10, e10, y10, rfl⟩ := hq.ex
     replace hq := hq.lower r11.fs
     have hL := lsm_of hap ha2 hs6 hf
     refine ⟨[.bool b10, .slice A10 n10 c10, .int .i64 x10, .bool d10, .slice B10 m10 e10, .int .i64 y10], rfl, rfl, rfl, k10, ?_⟩
     intro _ _ _ r12 S12
     refine wp_seq ?_
     refine wp_seq (rk Rs39_20 [] Fs39_19 Bs39_18 S12 r12 ?_)
     intro _ _ _ r13 S13
     refine wp_cond_split (t := b0) (S13.cnd (by kernel_rfl)) (fun q3 => ?_) (fun q3 => ?_)
     · have htn : t ≤ 0 := by rw [et]; exact neg_le (by rw [← hb0]; exact q3)
       refine wp_seq (rk Rs39_22 [.st 1 0 (i6 45)] Fs39_21 Bs39_23 S13 r13 ?_)
       intro W14 g14 r14 _
       refine (abs_q (h.below r14.first) (by omega) (tb hT r14)).mono ?_
       rintro _ V11 ⟨v, rfl, hb1, k11⟩
       obtain ⟨b11, A11, n11, c11, x11, rfl⟩ := hb1.ex
       replace hb1 := hb1.lower r14.fs
       refine ⟨[.bool b11, .slice A11 n11 c11, .int .i64 x11], rfl, rfl, rfl, k11, ?_⟩
       intro _ _ r15 _
       refine (above_q (hb1.lat (r15.at_ 7 _ rfl)).c (ab_nonneg t) (ab_le ht ht2) (by omega) hp (by omega) (tb hT r15)).mono ?_
       rintro _ V12 ⟨v, e1, e2, rfl, hb2, hab, k12⟩
       obtain ⟨b12, A12, n12, c12, x12, d12, B12, m12, e12, y12, rfl⟩ := hb2.ex
       replace hb2 := hb2.lower r15.fs
       refine ⟨[.bool b12, .slice A12 n12 c12, .int .i64 x12, .bool d12, .slice B12 m12 e12, .int .i64 y12], rfl, rfl, rfl, k12, ?_⟩
       intro W16 _ r16 _
       show Calls Tryz.prog 72 #[.agg #[.bool b10, .slice A10 n10 c10, .int .i64 x10, .bool d10, .slice B10 m10 e10, .int .i64 y10], .agg #[.bool b12, .slice A12 n12 c12, .int .i64 x12, .bool d12, .slice B12 m12 e12, .int .i64 y12], .int .i64 (IntKind.i64.wrap ((p : Int) + 64))] W16 _
       rw [hw64]
       refine (divi_q (p := p + 64) (hq.lat (r16.at_ 6 _ rfl)).c (hb2.lat (r16.at_ 8 _ rfl)).c hL.nar.1 hL.le hab.nar.1 hab.le (by omega) (by omega) (by omega) (tb hT r16)).mono ?_
       rintro _ V13 ⟨v, l3, u3, rfl, hb3, c1, c2, s3, s4, k13⟩
       obtain ⟨b13, A13, n13, c13, x13, d13, B13, m13, e13, y13, rfl⟩ := hb3.ex
       replace hb3 := hb3.lower r16.fs
       refine ⟨[.bool b13, .slice A13 n13 c13, .int .i64 x13, .bool d13, .slice B13 m13 e13, .int .i64 y13], rfl, rfl, rfl, k13, ?_⟩
       intro _ _ r17 _
       refine (turn_q (hb3.lat (r17.at_ 9 _ rfl)).c (by omega) (tb hT r17)).mono ?_
       rintro _ V14 ⟨v, rfl, hb4, k14⟩
       obtain ⟨b14, A14, n14, c14, x14, d14, B14, m14, e14, y14, rfl⟩ := hb4.ex
       replace hb4 := hb4.lower r17.fs
       refine ⟨[.bool b14, .slice A14 n14 c14, .int .i64 x14, .bool d14, .slice B14 m14 e14, .int .i64 y14], rfl, rfl, rfl, k14, ?_⟩
       intro _ _ _ r18 S18
       exact wp_ret (then_ret (ret_ok S18 [.agg #[.bool b14, .slice A14 n14 c14, .int .i64 x14, .bool d14, .slice B14 m14 e14, .int .i64 y14]] (by kernel_rfl) (⟨_, _, _, rfl, (hb4.lat (r18.at_ 10 _ rfl)).more (by omega), .inr ⟨h0, by have q := le1_neg hap hL hab c1 c2; rw [ab_neg htn, Rat.neg_neg] at q; exact q⟩, r18.first⟩)))
     · have htp : 0 ≤ t := by rw [et]; exact neg_ge (by rw [← hb0]; exact q3)
       refine wp_skip ?_
       refine wp_seq (rk Rs39_25 [.st 1 0 (i6 24)] Fs39_24 Bs39_26 S13 r13 ?_)
       intro _ g14 W14 r14 S14
       exact rt S14 [.agg #[.bool b10, .slice A10 n10 c10, .int .i64 x10, .bool d10, .slice B10 m10 e10, .int .i64 y10]] (⟨_, _, _, rfl, (hq.lat (r14.at_ 6 _ rfl)).more (by omega), .inr ⟨h0, by have q := le1_small hap hL; rw [ab_pos htp] at q; exact q⟩, r14.first⟩)
def zI : Value := .agg #[.bool false, .slice none 0 0, .int .i64 0, .bool false, .slice none 0 0, .int .i64 0]
def Asked (w' : World) (b : Nat) (fits : Prop) (p : Int) (q : Rat) (Sp : Nat → Rat → Rat → Rat → Prop) (v : Value) (why : Int) : Prop :=
 (why = 2 ∧ v = zI ∧ ¬ (fits ∧ 8 ≤ p ∧ p ≤ 4096)) ∨
 ((fits ∧ 8 ≤ p ∧ p ≤ 4096) ∧ ((why = 3 ∧ v = zI ∧ 16384 < ab q) ∨ (ab q ≤ 16384 ∧ ∃ l u l' u', Sp p.toNat q l u ∧ CutOf false l l' (ep (p.toNat + 8)) ∧ CutOf true u u' (ep (p.toNat + 8)) ∧ Short (p.toNat + 8) l' ∧ Short (p.toNat + 8) u' ∧
   ((why = 0 ∧ PI w' b v l' u' 1000001 ∧ FitQ l' ∧ FitQ u' ∧ l' ≤ u') ∨ (why = 3 ∧ v = zI ∧ ¬ (FitQ l' ∧ FitQ u' ∧ l' ≤ u'))))))
theorem Asked.ex6 {w' : World} {b : Nat} {fits : Prop} {p : Int} {q : Rat} {Sp : Nat → Rat → Rat → Rat → Prop} {v : Value} {why : Int} (h : Asked w' b fits p q Sp v why) : ∃ b A n c x d B m e y, v = .agg #[.bool b, .slice A n c, .int .i64 x, .bool d, .slice B m e, .int .i64 y] := by
 rcases h with ⟨_, rfl, _⟩ | ⟨_, ⟨_, rfl, _⟩ | ⟨_, l, u, l', u', _, _, _, _, _, ⟨_, h, _⟩ | ⟨_, rfl, _⟩⟩⟩
 · exact ⟨_, _, _, _, _, _, _, _, _, _, rfl⟩
 · exact ⟨_, _, _, _, _, _, _, _, _, _, rfl⟩
 · exact h.ex
 · exact ⟨_, _, _, _, _, _, _, _, _, _, rfl⟩
theorem Asked.imp {w1 w2 : World} {b1 b2 : Nat} {fits : Prop} {p : Int} {q : Rat} {Sp : Nat → Rat → Rat → Rat → Prop} {v : Value} {why : Int} (h : Asked w1 b1 fits p q Sp v why) (hp : ∀ l u, PI w1 b1 v l u 1000001 → PI w2 b2 v l u 1000001) : Asked w2 b2 fits p q Sp v why := by
 rcases h with h | ⟨h0, h | ⟨h1, l, u, l', u', h2, h3, h4, h5, h6, ⟨h7, h, h8⟩ | h⟩⟩
 · exact .inl h
 · exact .inr ⟨h0, .inl h⟩
 · exact .inr ⟨h0, .inr ⟨h1, l, u, l', u', h2, h3, h4, h5, h6, .inl ⟨h7, hp _ _ h, h8⟩⟩⟩
 · exact .inr ⟨h0, .inr ⟨h1, l, u, l', u', h2, h3, h4, h5, h6, .inr h⟩⟩
theorem Asked.lat {w1 w2 : World} {b : Nat} {fits : Prop} {p : Int} {q : Rat} {Sp : Nat → Rat → Rat → Rat → Prop} {v : Value} {why : Int} (h : Asked w1 b fits p q Sp v why) (hb : Lat 64 w1 w2) : Asked w2 b fits p q Sp v why := h.imp fun _ _ q => q.lat hb
theorem Asked.lower {w1 : World} {b b' : Nat} {fits : Prop} {p : Int} {q : Rat} {Sp : Nat → Rat → Rat → Rat → Prop} {v : Value} {why : Int} (h : Asked w1 b fits p q Sp v why) (hb : b' ≤ b) : Asked w1 b' fits p q Sp v why := h.imp fun _ _ q => q.lower hb
theorem fit_bl {m : Nat} {x : Int} (h : Fit m x = true) : bl m ≤ 65536 ∧ -32768 ≤ x ∧ x ≤ 32768 := by
 have h1 : (limbs m).length ≤ 1024 ∧ -32768 ≤ x ∧ x ≤ 32768 := of_decide_eq_true h
 exact ⟨Nat.le_trans (bl_limbs m) (by omega), h1.2⟩
theorem bd_of {N m : Nat} {s : Bool} {x : Int} (h : bl m ≤ N) (h1 : -(N : Int) ≤ x) (h2 : x ≤ (N : Int)) : Bd N (sgn s m) x := ⟨by rw [sgn_abs]; exact bl_le_iff.1 h, h1, h2⟩
theorem ask_if {r : Bool} {p : Int} : (if (if (!r) = true then true else decide (p < 8)) = true then true else decide (p > 4096)) = true ↔ ¬ (r = true ∧ 8 ≤ p ∧ p ≤ 4096) := by
 cases r
 · simp
 · by_cases h1 : p < 8
   · simp [h1]
     try omega
   · have h3 : 8 ≤ p := by omega
     by_cases h2 : p > 4096
     · simp [h1, h2]
     · simp [h1, h2, h3]
       try omega
theorem ab_bounds {q : Rat} (h : ab q ≤ 16384) : -16384 ≤ q ∧ q ≤ 16384 := by
 unfold ab at h
 split at h <;> constructor <;> grind
def Ft32_0 (fw : Nat) : List Sy := [dg 0, vi 3, .lit (.func (.func fw) #[] #[]), U, U, U, U, U, U, U, U, U, U, U, U, U, U, U, U, U, U, U, U, U, U, U, U, U, U, U, U, U, U, U, U, U, U, U, U, U, U]
def Ft32_1 (fw : Nat) : List Sy := fs (Ft32_0 fw) [(3, ps 0 0), (6, ps 1 0), (7, li 0)]
def Bt32_2 := [bb 25 (d3 0), bb 28 o6]
def Rt32_3 (fw : Nat) : Rg := ⟨3, 4, 0, (Ft32_0 fw), Bt32_2, [pa 0 0, pa 1 0, pv (li 0) 0], []⟩
def Ft32_4 (fw : Nat) : List Sy := fs (Ft32_1 fw) [(9, dg 0), (10, vb 4), (11, f1 noF (vb 4)), (12, f1 noF (vb 4)), (13, gd false (f1 noF (vb 4)) (vi 3)), (14, gd false (f1 noF (vb 4)) (bo .lss (vi 3) (li 8))), (15, pk (f1 noF (vb 4)) (lb true) (bo .lss (vi 3) (li 8))), (16, pk (f1 noF (vb 4)) (lb true) (bo .lss (vi 3) (li 8))), (17, gd false (pk (f1 noF (vb 4)) (lb true) (bo .lss (vi 3) (li 8))) (vi 3)), (18, gd false (pk (f1 noF (vb 4)) (lb true) (bo .lss (vi 3) (li 8))) (bo .gtr (vi 3) (li 4096))), (19, pk (pk (f1 noF (vb 4)) (lb true) (bo .lss (vi 3) (li 8))) (lb true) (bo .gtr (vi 3) (li 4096)))]
def Rt32_5 (fw : Nat) : Rg := ⟨11, 4, 2, (Ft32_1 fw), Bt32_2, [pl (dg 0) 0 0 0, pc (vb 4) 0 65 [dg 0] 1, pv (f1 noF (vb 4)) 1, pv (f1 noF (vb 4)) 1, ⟨vi 3, 1, [], .val, gd false (f1 noF (vb 4)) (vi 3)⟩, ⟨bo .lss (vi 3) (li 8), 1, [], .val, gd false (f1 noF (vb 4)) (bo .lss (vi 3) (li 8))⟩, ⟨pk (f1 noF (vb 4)) (lb true) (bo .lss (vi 3) (li 8)), 1, [], .pk, pk (f1 noF (vb 4)) (lb true) (bo .lss (vi 3) (li 8))⟩, pv (pk (f1 noF (vb 4)) (lb true) (bo .lss (vi 3) (li 8))) 1, ⟨vi 3, 1, [], .val, gd false (pk (f1 noF (vb 4)) (lb true) (bo .lss (vi 3) (li 8))) (vi 3)⟩, ⟨bo .gtr (vi 3) (li 4096), 1, [], .val, gd false (pk (f1 noF (vb 4)) (lb true) (bo .lss (vi 3) (li 8))) (bo .gtr (vi 3) (li 4096))⟩, ⟨pk (pk (f1 noF (vb 4)) (lb true) (bo .lss (vi 3) (li 8))) (lb true) (bo .gtr (vi 3) (li 4096)), 1, [], .pk, pk (pk (f1 noF (vb 4)) (lb true) (bo .lss (vi 3) (li 8))) (lb true) (bo .gtr (vi 3) (li 4096))⟩], [1]⟩
def Ft32_6 (fw : Nat) : List Sy := fs (Ft32_4 fw) [(7, li 2), (20, ag o6)]
def Rt32_7 (fw : Nat) : Rg := ⟨1, 5, 2, (Ft32_4 fw), Bt32_2, [pv (ag o6) 0], []⟩
def Ft32_8 (fw : Nat) : List Sy := fs (Ft32_4 fw) [(21, dg 0), (22, dg 5)]
def Rt32_9 (fw : Nat) : Rg := ⟨2, 5, 2, (Ft32_4 fw), Bt32_2, [pl (dg 0) 0 0 0, pc (dg 5) 0 66 [dg 0] 3], [1]⟩
def Bt32_10 := [bb 25 (d3 5), bb 28 o6]
def Ft32_11 (fw : Nat) : List Sy := fs (Ft32_8 fw) [(23, dg 5), (24, dg 8), (25, dg 11), (26, vi 14), (27, bo .gtr (vi 14) (li 0))]
def Rt32_12 (fw : Nat) : Rg := ⟨5, 8, 2, (Ft32_8 fw), Bt32_10, [pl (dg 5) 0 0 0, pc (dg 8) 0 68 [dg 5] 3, pc (dg 11) 1 69 [li 16384] 3, pc (vi 14) 2 67 [dg 8, dg 11] 1, pv (bo .gtr (vi 14) (li 0)) 3], [1, 2, 3]⟩
def Ft32_13 (fw : Nat) : List Sy := fs (Ft32_11 fw) [(7, li 3), (28, ag o6)]
def Rt32_14 (fw : Nat) : Rg := ⟨1, 15, 2, (Ft32_11 fw), Bt32_10, [pv (ag o6) 0], []⟩
def Ft32_15 (fw : Nat) : List Sy := fs (Ft32_11 fw) [(8, ps 2 0), (29, .lit (.func (.func fw) #[] #[])), (30, dg 5), (31, vi 3), (32, ig 15), (33, vi 3), (34, bo .add (vi 3) (li 8)), (35, ig 21)]
def Bt32_16 := [bb 25 (d3 5), bb 28 o6, bb 28 o6]
def Rt32_17 (fw : Nat) : Rg := ⟨8, 15, 2, (Ft32_11 fw), Bt32_16, [pv (.lit (.func (.func fw) #[] #[])) 0, pl (dg 5) 0 0 0, pv (vi 3) 0, pc (ig 15) 0 fw [dg 5, vi 3] 6, pv (vi 3) 0, pv (bo .add (vi 3) (li 8)) 0, pc (ig 21) 1 70 [ig 15, bo .add (vi 3) (li 8)] 6, pa 2 0], [3, 6]⟩
def Bt32_18 := [bb 25 (d3 5), bb 28 o6, bb 28 (i6 21)]
def Ft32_19 (fw : Nat) : List Sy := fs (Ft32_15 fw) [(36, ig 21), (37, vb 27), (38, f1 noF (vb 27))]
def Rt32_20 (fw : Nat) : Rg := ⟨3, 27, 3, (Ft32_15 fw), Bt32_18, [pl (ig 21) 0 2 0, pc (vb 27) 0 48 [ig 21] 1, pv (f1 noF (vb 27)) 1], [1]⟩
def Ft32_21 (fw : Nat) : List Sy := fs (Ft32_19 fw) [(7, li 3), (39, ag o6)]
def Rt32_22 (fw : Nat) : Rg := ⟨1, 28, 3, (Ft32_19 fw), Bt32_18, [pv (ag o6) 0], []⟩
def Ft32_23 (fw : Nat) : List Sy := fs (Ft32_19 fw) [(40, ig 21)]
def Rt32_24 (fw : Nat) : Rg := ⟨1, 28, 3, (Ft32_19 fw), Bt32_18, [pl (ig 21) 0 2 0], []⟩
def Bt32_25 := [bb 25 (d3 5), bb 28 (i6 21), bb 28 (i6 21)]
theorem asked_q {v : Value} {s : Bool} {m fw : Nat} {x p : Int} {Sp : Nat → Rat → Rat → Rat → Prop} {w : World} (h : ADy w v s m x) (hent : Enters Tryz.prog fw)
 (hway : ∀ (P : Nat) (W : World) (u : Value) (b : Nat), BL w W → PQ W b u (Dv (sgn s m) x) 65536 → -16384 ≤ Dv (sgn s m) x → Dv (sgn s m) x ≤ 16384 → 8 ≤ P → P ≤ 4096 → Calls Tryz.prog fw #[u, .int .i64 (P : Int)] W fun e W' => ∃ v' l r, e = .returned v' ∧ PI W' W.heap.size v' l r 1000000 ∧ Sp P (Dv (sgn s m) x) l r ∧ BL W W') (hT : TB w) :
 Calls Tryz.prog 32 #[v, .int .i64 p, .func (.func fw) #[] #[]] w fun en w' => ∃ v' why, en = .returned (.tuple #[v', .int .i64 why]) ∧ Asked w' w.heap.size (Fit m x = true) p (Dv (sgn s m) x) Sp v' why ∧ BL w w' := by
 obtain ⟨A0, n0, c0, rfl, h⟩ := h
 have h : ADy w (.agg #[.bool s, .slice A0 n0 c0, .int .i64 x]) s m x := ⟨_, _, _, rfl, h⟩
 obtain ⟨q, hq⟩ : ∃ q, q = Dv (sgn s m) x := ⟨_, rfl⟩
 rw [← hq] at hway ⊢
 refine fn_enter (u := 64) (fn := Tryz.f32) Tryz.func32 rfl (Ft32_0 fw) [.bool s, .slice A0 n0 c0, .int .i64 x, .int .i64 p] (by kernel_rfl) rfl (fun a0 S0 r0 => ?_)
 refine wp_seq (rk (Rt32_3 fw) [] (Ft32_1 fw) Bt32_2 S0 r0 ?_)
 intro _ _ _ r1 S1
 refine wp_seq ?_
 refine wp_seq (rk (Rt32_5 fw) [] (Ft32_4 fw) Bt32_2 S1 r1 ?_)
 intro _ _ r2 _
 refine (fits_all (h.below r2.first)).mono ?_
 rintro _ V1 ⟨rfl, k1⟩
 refine ⟨[.bool (Fit m x)], rfl, rfl, rfl, k1, ?_⟩
 intro _ _ _ r3 S3
 refine wp_cond_split (t := if if !(Fit m x) then true else decide (p < 8) then true else decide (p > 4096)) (S3.cnd (by kernel_rfl)) (fun q1 => ?_) (fun q1 => ?_)
 · refine wp_seq (rk (Rt32_7 fw) [.st 1 0 o6, .mv (li 2)] (Ft32_6 fw) Bt32_2 S3 r3 ?_)
   intro _ g4 W4 r4 S4
   exact wp_ret (then_ret (ret_ok S4 [.agg #[.bool false, .slice none 0 0, .int .i64 0, .bool false, .slice none 0 0, .int .i64 0], .int .i64 2] (by kernel_rfl) (⟨_, _, rfl, .inl ⟨rfl, rfl, ask_if.1 q1⟩, r4.first⟩)))
 · have hok : Fit m x = true ∧ 8 ≤ p ∧ p ≤ 4096 := Classical.byContradiction fun hc => by rw [ask_if.2 hc] at q1; cases q1
   obtain ⟨hfit, hp8, hp4⟩ := hok
   obtain ⟨hbl, hx1, hx2⟩ := fit_bl hfit
   obtain ⟨P, hP⟩ : ∃ P : Nat, p = (P : Int) := ⟨p.toNat, by omega⟩
   have hPn : p.toNat = P := by omega
   have hw8 : IntKind.i64.wrap (p + 8) = ((P + 8 : Nat) : Int) := by rw [hP, i64_id (by omega) (by omega)]; rfl
   refine wp_skip ?_
   refine wp_seq (rk (Rt32_9 fw) [.st 0 0 (d3 5)] (Ft32_8 fw) Bt32_10 S3 r3 ?_)
   intro W4 g4 r4 _
   refine (one_all (h.below r4.first) (by omega) (by omega) (by omega) (tb hT r4)).mono ?_
   rintro _ V2 ⟨v, rfl, h1, k2⟩
   obtain ⟨b2, A2, n2, c2, x2, rfl⟩ := h1.ex
   replace h1 := h1.lower r4.fs
   have h2 : PQ _ w.heap.size _ q 65536 := ⟨_, _, h1, hq, bd_of hbl (by omega) (by omega)⟩
   refine ⟨[.bool b2, .slice A2 n2 c2, .int .i64 x2], rfl, rfl, rfl, k2, ?_⟩
   intro _ _ _ r5 S5
   refine wp_seq ?_
   refine wp_seq (rk (Rt32_12 fw) [] (Ft32_11 fw) Bt32_10 S5 r5 ?_)
   intro _ _ r6 _
   refine (abs_q (h2.lat (r6.at_ 1 _ rfl)).c (by decide) (tb hT r6)).mono ?_
   rintro _ V3 ⟨v, rfl, h3, k3⟩
   obtain ⟨b3, A3, n3, c3, x3, rfl⟩ := h3.ex
   replace h3 := h3.lower r6.fs
   refine ⟨[.bool b3, .slice A3 n3 c3, .int .i64 x3], rfl, rfl, rfl, k3, ?_⟩
   intro _ _ r7 _
   refine (int_q 16384 _ (by decide) (by decide) (tb hT r7)).mono ?_
   rintro _ V4 ⟨v, rfl, h4, k4⟩
   obtain ⟨b4, A4, n4, c4, x4, rfl⟩ := h4.ex
   replace h4 := h4.lower r7.fs
   refine ⟨[.bool b4, .slice A4 n4 c4, .int .i64 x4], rfl, rfl, rfl, k4, ?_⟩
   intro _ _ r8 _
   refine (cmp_q (h3.lat (r8.at_ 2 _ rfl)).c (h4.lat (r8.at_ 3 _ rfl)).c (by decide) (tb hT r8)).mono ?_
   rintro _ V5 ⟨rfl, k5⟩
   refine ⟨[.int .i64 (cmpQ (ab q) ((16384 : Int) : Rat))], rfl, rfl, rfl, k5, ?_⟩
   intro _ _ _ r9 S9
   refine wp_cond_split (t := decide ((cmpQ (ab q) ((16384 : Int) : Rat)) > 0)) (S9.cnd (by kernel_rfl)) (fun q2 => ?_) (fun q2 => ?_)
   · have hbig : 16384 < ab q := by rw [cmp_gt] at q2; exact of_decide_eq_true q2
     refine wp_seq (rk (Rt32_14 fw) [.st 1 0 o6, .mv (li 3)] (Ft32_13 fw) Bt32_10 S9 r9 ?_)
     intro _ g10 W10 r10 S10
     exact wp_ret (then_ret (ret_ok S10 [.agg #[.bool false, .slice none 0 0, .int .i64 0, .bool false, .slice none 0 0, .int .i64 0], .int .i64 3] (by kernel_rfl) (⟨_, _, rfl, .inr ⟨⟨hfit, hp8, hp4⟩, .inl ⟨rfl, rfl, hbig⟩⟩, r10.first⟩)))
   · have hsm : ab q ≤ 16384 := by rw [cmp_gt] at q2; exact Rat.not_lt.1 (of_decide_eq_false q2)
     obtain ⟨hb1, hb2⟩ := ab_bounds hsm
     refine wp_skip ?_
     refine wp_seq ?_
     refine region_ok (Rt32_17 fw) [.st 2 0 (i6 21)] (Ft32_15 fw) Bt32_18 mx (by kernel_rfl) (ents_of [fw, 70] (by kernel_rfl) ⟨hent, entB_ok (by kernel_rfl), trivial⟩) (fun E g => by kernel_rfl) (by kernel_rfl) S9 (by kernel_rfl) r9 ?_
     intro W10 g10 r10 _
     have cw := hway P _ _ _ r10.first (h2.lat (r10.at_ 1 _ rfl)) hb1 hb2 (by omega) (by omega)
     rw [← hP] at cw
     refine (cw).mono ?_
     rintro _ V6 ⟨v, l, u, rfl, h5, hSp, k6⟩
     obtain ⟨b6, A6, n6, c6, x6, d6, B6, m6, e6, y6, rfl⟩ := h5.ex
     replace h5 := h5.lower r10.fs
     refine ⟨[.bool b6, .slice A6 n6 c6, .int .i64 x6, .bool d6, .slice B6 m6 e6, .int .i64 y6], rfl, rfl, rfl, k6, ?_⟩
     intro W11 _ r11 _
     show Calls Tryz.prog 70 #[.agg #[.bool b6, .slice A6 n6 c6, .int .i64 x6, .bool d6, .slice B6 m6 e6, .int .i64 y6], .int .i64 (IntKind.i64.wrap (p + 8))] W11 _
     rw [hw8]
     refine (trim_q (p := P + 8) (h5.lat (r11.at_ 5 _ rfl)).c (by decide) (by omega) (by omega) (tb hT r11)).mono ?_
     rintro _ V7 ⟨v, l', u', rfl, h6, e1, e2, s1, s2, k7⟩
     obtain ⟨b7, A7, n7, c7, x7, d7, B7, m7, e7, y7, rfl⟩ := h6.ex
     replace h6 := h6.lower r11.fs
     refine ⟨[.bool b7, .slice A7 n7 c7, .int .i64 x7, .bool d7, .slice B7 m7 e7, .int .i64 y7], rfl, rfl, rfl, k7, ?_⟩
     intro _ _ _ r12 S12
     refine wp_seq ?_
     refine wp_seq (rk (Rt32_20 fw) [] (Ft32_19 fw) Bt32_18 S12 r12 ?_)
     intro _ _ r13 _
     refine (right_q (h6.lat (r13.at_ 6 _ rfl)).c (by decide) (tb hT r13)).mono ?_
     rintro _ V8 ⟨r, rfl, hr, k8⟩
     refine ⟨[.bool r], rfl, rfl, rfl, k8, ?_⟩
     intro _ _ _ r14 S14
     refine wp_cond_split (t := !r) (S14.cnd (by kernel_rfl)) (fun q3 => ?_) (fun q3 => ?_)
     · refine wp_seq (rk (Rt32_22 fw) [.st 1 0 o6, .mv (li 3)] (Ft32_21 fw) Bt32_18 S14 r14 ?_)
       intro a15 g15 W15 r15 S15
       exact wp_ret (then_ret (ret_ok S15 [.agg #[.bool false, .slice none 0 0, .int .i64 0, .bool false, .slice none 0 0, .int .i64 0], .int .i64 3] (by kernel_rfl) (⟨_, _, rfl, .inr ⟨⟨hfit, hp8, hp4⟩, .inr ⟨hsm, l, u, l', u', by rw [hPn]; exact hSp, by rw [hPn]; exact e1, by rw [hPn]; exact e2, by rw [hPn]; exact s1, by rw [hPn]; exact s2, .inr ⟨rfl, rfl, fun hc => by rw [hr.2 hc] at q3; cases q3⟩⟩⟩, r15.first⟩)))
     · refine wp_skip ?_
       refine wp_seq (rk (Rt32_24 fw) [.st 1 0 (i6 21), .mv (li 0)] (Ft32_23 fw) Bt32_25 S14 r14 ?_)
       intro a15 g15 W15 r15 S15
       exact rt S15 [.agg #[.bool b7, .slice A7 n7 c7, .int .i64 x7, .bool d7, .slice B7 m7 e7, .int .i64 y7], .int .i64 0] (⟨_, _, rfl, .inr ⟨⟨hfit, hp8, hp4⟩, .inr ⟨hsm, l, u, l', u', by rw [hPn]; exact hSp, by rw [hPn]; exact e1, by rw [hPn]; exact e2, by rw [hPn]; exact s1, by rw [hPn]; exact s2, .inl ⟨rfl, (h6.lat (r15.at_ 6 _ rfl)), hr.1 (by cases r with | true => rfl | false => cases q3)⟩⟩⟩, r15.first⟩)
def SpE (P : Nat) (q l u : Rat) : Prop := Enc l u q (ep (P + 49))
def SpL (P : Nat) (q l u : Rat) : Prop := (q = 0 ∧ l = 0 ∧ u = 0) ∨ (q ≠ 0 ∧ Le1 (P + 30) q l u)
def Ft9_0 := [dg 0, vi 3, U, U, U, U, U, U, U, U, U]
def Ft9_1 := fs Ft9_0 [(2, ps 0 0), (4, ps 1 0), (5, li 0)]
def Bt9_2 := [bb 25 (d3 0), bb 28 o6]
def Rt9_3 : Rg := ⟨3, 4, 0, Ft9_0, Bt9_2, [pa 0 0, pa 1 0, pv (li 0) 0], []⟩
def Ft9_4 := fs Ft9_1 [(5, vi 10), (6, dg 0), (7, vi 3), (8, tu [ig 4, vi 10]), (9, ig 4), (10, vi 10)]
def Rt9_5 : Rg := ⟨5, 4, 2, Ft9_1, Bt9_2, [pl (dg 0) 0 0 0, pv (vi 3) 0, pc (tu [ig 4, vi 10]) 0 32 [dg 0, vi 3, .lit (.func (.func 33) #[] #[])] 7, pv (ig 4) 1, pv (vi 10) 1], [2]⟩
def Bt9_6 := [bb 25 (d3 0), bb 28 (i6 4)]
theorem exp_q {v : Value} {s : Bool} {m : Nat} {x p : Int} {w : World} (h : ADy w v s m x) (hT : TB w) :
 Calls Tryz.prog 9 #[v, .int .i64 p] w fun en w' => ∃ v' why, en = .returned (.tuple #[v', .int .i64 why]) ∧ Asked w' w.heap.size (Fit m x = true) p (Dv (sgn s m) x) SpE v' why ∧ BL w w' := by
 obtain ⟨A0, n0, c0, rfl, h⟩ := h
 have h : ADy w (.agg #[.bool s, .slice A0 n0 c0, .int .i64 x]) s m x := ⟨_, _, _, rfl, h⟩
 refine fn_enter (u := 64) (fn := Tryz.f9) Tryz.func9 rfl Ft9_0 [.bool s, .slice A0 n0 c0, .int .i64 x, .int .i64 p] (by kernel_rfl) rfl (fun a0 S0 r0 => ?_)
 refine wp_seq (rk Rt9_3 [] Ft9_1 Bt9_2 S0 r0 ?_)
 intro _ g1 _ r1 S1
 refine wp_seq (rk Rt9_5 [.st 1 0 (i6 4), .mv (vi 10)] Ft9_4 Bt9_6 S1 r1 ?_)
 intro _ g2 r2 _
 refine (asked_q (p := p) (Sp := SpE) (h.below r2.first) (entB_ok (by kernel_rfl)) (fun P W u b hb hu h1 h2 h3 h4 => (power_q (N := 65536) hu.c h1 h2 (by decide) h3 (by omega) (tab_below (tb hT r2) hb)).mono (by rintro e W' ⟨v, l, r, rfl, g1, g2, g3⟩; exact ⟨v, l, r, rfl, g1.more (by decide), g2, g3⟩)) (tb hT r2)).mono ?_
 rintro _ V1 ⟨v, why, rfl, h1, k1⟩
 obtain ⟨b1, A1, n1, c1, x1, d1, B1, m1, e1, y1, rfl⟩ := h1.ex6
 refine ⟨[.bool b1, .slice A1 n1 c1, .int .i64 x1, .bool d1, .slice B1 m1 e1, .int .i64 y1, .int .i64 why], rfl, rfl, rfl, k1, ?_⟩
 intro _ g3 _ r3 S3
 exact rt S3 [.agg #[.bool b1, .slice A1 n1 c1, .int .i64 x1, .bool d1, .slice B1 m1 e1, .int .i64 y1], .int .i64 why] (⟨_, _, rfl, (h1.lower r2.fs).lat (r3.at_ 0 _ rfl), r3.first⟩)
def Ft14_0 := [dg 0, vi 3, U, U, U, U, U, U, U, U, U]
def Ft14_1 := fs Ft14_0 [(2, ps 0 0), (4, ps 1 0), (5, li 0)]
def Bt14_2 := [bb 25 (d3 0), bb 28 o6]
def Rt14_3 : Rg := ⟨3, 4, 0, Ft14_0, Bt14_2, [pa 0 0, pa 1 0, pv (li 0) 0], []⟩
def Ft14_4 := fs Ft14_1 [(5, vi 10), (6, dg 0), (7, vi 3), (8, tu [ig 4, vi 10]), (9, ig 4), (10, vi 10)]
def Rt14_5 : Rg := ⟨5, 4, 2, Ft14_1, Bt14_2, [pl (dg 0) 0 0 0, pv (vi 3) 0, pc (tu [ig 4, vi 10]) 0 32 [dg 0, vi 3, .lit (.func (.func 39) #[] #[])] 7, pv (ig 4) 1, pv (vi 10) 1], [2]⟩
def Bt14_6 := [bb 25 (d3 0), bb 28 (i6 4)]
theorem expm1_q {v : Value} {s : Bool} {m : Nat} {x p : Int} {w : World} (h : ADy w v s m x) (hT : TB w) :
 Calls Tryz.prog 14 #[v, .int .i64 p] w fun en w' => ∃ v' why, en = .returned (.tuple #[v', .int .i64 why]) ∧ Asked w' w.heap.size (Fit m x = true) p (Dv (sgn s m) x) SpL v' why ∧ BL w w' := by
 obtain ⟨A0, n0, c0, rfl, h⟩ := h
 have h : ADy w (.agg #[.bool s, .slice A0 n0 c0, .int .i64 x]) s m x := ⟨_, _, _, rfl, h⟩
 refine fn_enter (u := 64) (fn := Tryz.f14) Tryz.func14 rfl Ft14_0 [.bool s, .slice A0 n0 c0, .int .i64 x, .int .i64 p] (by kernel_rfl) rfl (fun a0 S0 r0 => ?_)
 refine wp_seq (rk Rt14_3 [] Ft14_1 Bt14_2 S0 r0 ?_)
 intro _ g1 _ r1 S1
 refine wp_seq (rk Rt14_5 [.st 1 0 (i6 4), .mv (vi 10)] Ft14_4 Bt14_6 S1 r1 ?_)
 intro _ g2 r2 _
 refine (asked_q (p := p) (Sp := SpL) (h.below r2.first) (entB_ok (by kernel_rfl)) (fun P W u b hb hu h1 h2 h3 h4 => (eless_q (N := 65536) hu.c h1 h2 (by decide) h3 (by omega) (tab_below (tb hT r2) hb)).mono (by rintro e W' ⟨v, l, r, rfl, g1, g2, g3⟩; exact ⟨v, l, r, rfl, g1, g2, g3⟩)) (tb hT r2)).mono ?_
 rintro _ V1 ⟨v, why, rfl, h1, k1⟩
 obtain ⟨b1, A1, n1, c1, x1, d1, B1, m1, e1, y1, rfl⟩ := h1.ex6
 refine ⟨[.bool b1, .slice A1 n1 c1, .int .i64 x1, .bool d1, .slice B1 m1 e1, .int .i64 y1, .int .i64 why], rfl, rfl, rfl, k1, ?_⟩
 intro _ g3 _ r3 S3
 exact rt S3 [.agg #[.bool b1, .slice A1 n1 c1, .int .i64 x1, .bool d1, .slice B1 m1 e1, .int .i64 y1], .int .i64 why] (⟨_, _, rfl, (h1.lower r2.fs).lat (r3.at_ 0 _ rfl), r3.first⟩)
open Go.RowKit Go.Proofs.YtkdicconchobfaaGreatDoorW.PrintWords Limb
theorem add_any (a b : List Nat) (A B : Option Addr) (na nb c d : Nat) (hna : a.length = na) (hnb : b.length = nb) (w : World) (ha : kU.C w A na a) (hb : kU.C w B nb b) (hc : na ≤ c) (hd : nb ≤ d) (wa : Wf a) (wb : Wf b) (la : na ≤ 2147483648) (lb : nb ≤ 2147483648) :
 Calls Tryz.prog 54 #[.slice A na c, .slice B nb d] w fun e w' => ∃ v, e = .returned v ∧ kU.R 64 w' w.heap.size (fun _ => True) v (limbs (nv a + nv b)) ∧ BL w w' := by
 have HA := yk ha
 have HB := yk hb
 have WA := yk wa
 have WB := yk wb
 have HNA := yk hna
 have HNB := yk hnb
 clear ha hb wa wb hna hnb
 rcases Nat.lt_or_ge na nb with hab | hab
 all_goals
  go_enter Tryz.func54, Tryz.ntmps54
  go_wp2
  go_loopw [5, 6, 7] (fun v5 v6 v7 wr => ∃ (k cy : Nat) (acc : List Nat), v6 = .int .u64 cy ∧ v7 = .int .i64 k ∧ cy ≤ 1 ∧ k ≤ 2147483648 ∧ (k ≤ na ∨ k ≤ nb) ∧ Aside0 (BL w wr) ∧ Aside0 (kU.R 64 wr w.heap.size (fun _ => True) v5 acc) ∧ Aside0 (acc.length = k ∧ Wf acc ∧ nv acc + 2 ^ (64 * k) * cy = nv (a.take k) + nv (b.take k))) (fun _ _ v7 _ => na + nb - (intOf v7).toNat)
  case atStart => exact ⟨0, 0, [], rfl, rfl, by omega, by omega, by omega, ⟨Below.refl _ _⟩, ⟨Kd.R_nil _ _ _ _ _⟩, ⟨rfl, .nil, by simp [nv]⟩⟩
  case round =>
   obtain ⟨k, cy, acc, rfl, rfl, hcy, hk, hkk, HBB, HO, HG⟩ := hrel
   by_cases hlt : k < na ∨ k < nb
   · obtain ⟨x, hx⟩ : ∃ x, x = wd a k := ⟨_, rfl⟩
     obtain ⟨y, hy⟩ : ∃ y, y = wd b k := ⟨_, rfl⟩
     have HX := yk hx
     have HY := yk hy
     have hx64 : x < 18446744073709551616 := by rw [hx]; exact wd_lt WA.out k
     have hy64 : y < 18446744073709551616 := by rw [hy]; exact wd_lt WB.out k
     clear hx hy
     have QA : ∀ m, BL w m → Calls Tryz.prog 94 #[.slice A na c, .int .i64 (k : Int)] m fun e w' => e = .returned (.int .u64 (x : Int)) ∧ ∃ n, w' = m.drewN n := fun m hm => by
      have h1 := HNA.out; subst h1
      exact word_is a A c k x _ rfl HX.out.symm _ (Kd.C_below HA.out hm) hc (by omega)
     have QB : ∀ m, BL w m → Calls Tryz.prog 94 #[.slice B nb d, .int .i64 (k : Int)] m fun e w' => e = .returned (.int .u64 (y : Int)) ∧ ∃ n, w' = m.drewN n := fun m hm => by
      have h1 := HNB.out; subst h1
      exact word_is b B d k y _ rfl HY.out.symm _ (Kd.C_below HB.out hm) hd (by omega)
     have QA' := yk QA
     have QB' := yk QB
     clear QA QB
     obtain ⟨s, c', hs1, hs2, hs3, hs4⟩ : ∃ s c' : Nat, s < 18446744073709551616 ∧ c' ≤ 1 ∧ s + 18446744073709551616 * c' = x + y + cy ∧ IntKind.u64.wrap (IntKind.u64.wrap ((x : Int) + y) + cy) = (s : Int) := ⟨(x + y + cy) % 18446744073709551616, (x + y + cy) / 18446744073709551616, by omega, by omega, by omega, by unfold IntKind.wrap; simp [IntKind.bits, IntKind.signed] <;> omega⟩
     have HT := yk (show (a.take (k + 1)).length ≤ k + 1 from by rw [List.length_take]; omega)
     have HS := yk hs3
     have hcase : (c' = 1 ∧ s < x) ∨ (c' = 1 ∧ s = x ∧ cy = 1 ∧ 0 < y) ∨ (c' = 0 ∧ x < s) ∨ (c' = 0 ∧ s = x ∧ cy = 0 ∧ y = 0) := by omega
     clear hs3
     rcases hcase with ⟨hc1, hq⟩ | ⟨hc1, hq, hq1, hq2⟩ | ⟨hc1, hq⟩ | ⟨hc1, hq, hq1, hq2⟩
     case' inl => have hf : ((s : Int) == (x : Int)) = false := by simp; omega
     case' inr.inl => have hf : ((s : Int) == (x : Int)) = true := by simp [hq]
     case' inr.inl => have hf2 : x ≤ s := by omega
     case' inr.inl => have hf3 : ((cy : Int) == 1) = true := by simp [hq1]
     case' inr.inl => have HQ := yk hq; clear hq hq1
     case' inr.inr.inl => have hf : ((s : Int) == (x : Int)) = false := by simp; omega
     case' inr.inr.inr => have hf : ((s : Int) == (x : Int)) = true := by simp [hq]
     case' inr.inr.inr => have hf2 : x ≤ s := by omega
     case' inr.inr.inr => have hf3 : ((cy : Int) == 1) = false := by simp [hq1]
     case' inr.inr.inr => have HQ := yk hq; clear hq hq1 hq2
     all_goals subst hc1
     all_goals
      go_wp2_with (first | (go_at_call 94; first | (with_reducible refine (QA'.out _ ?hB).mono ?_; (case hB => first | exact HBB.out | exact pw_below_drewN HBB.out _); rintro e w' ⟨rfl, n1, rfl⟩) | (with_reducible refine (QB'.out _ ?hB).mono ?_; (case hB => first | exact HBB.out | exact pw_below_drewN HBB.out _); rintro e w' ⟨rfl, n2, rfl⟩)) | ((with_reducible refine gate_builtin (b := .append) (xs := #[.tmp 47, .tmp 49]) rfl ?_); at_builtin; go_must (refine Kd.R_append kU (w0 := w) w.heap.size rfl (.tmp 47) (.tmp 49) 23 64 (.int .u64 0) 8 rfl Tryz.underlying23 info_word rfl (by decide) (by omega) u5 acc s [.int .u64 ((s : Nat) : Int)] (fun _ => True) (fun _ => False) rfl rfl ?aP (fun _ hk => hk.elim) ?aF ?aO ?aB ?aS ?aL ?_; (case aP => exact rfl); (case aF => exact fun _ _ => trivial); (case aO => exact Kd.R_drewN HO.out _); (case aB => exact pw_below_drewN HBB.out _); (case aS => exact (pw_below_drewN HBB.out _).size); (case aL => (have := HG.out.1; omega)); intro v_1 w_1 ho hb _ _; have HO' := yk ho; have HB' := yk hb; clear ho hb)))
      clear hs4
      go_roundw
      case rel => exact ⟨k + 1, _, acc ++ [s], rfl, by go_num, by omega, by omega, by omega, HB', HO', ⟨by simp [HG.out.1], HG.out.2.1.snoc hs1, by
       rw [nv_snoc, nv_take_succ, nv_take_succ, HG.out.1, ← HX.out, ← HY.out]
       exact add_step HG.out.2.2 HS.out rfl⟩⟩
      case measure => simp [intOf]; omega
   · have HF := yk (show nv (acc ++ [cy]) = nv a + nv b by
      have h1 := HNA.out
      have h2 := HNB.out
      have h3 := HG.out.2.2
      rw [nv_take_all (by omega), nv_take_all (by omega)] at h3
      rw [nv_snoc, HG.out.1, h3])
     have HV := yk (show Wf (acc ++ [cy]) from HG.out.2.1.snoc (by omega))
     have HLEN := yk (show (acc ++ [cy]).length ≤ 4294967296 by have := HG.out.1; simp; omega)
     go_wp2_with (first | ((with_reducible refine gate_builtin (b := .append) (xs := #[.tmp 51, .tmp 53]) rfl ?_); at_builtin; go_must (refine Kd.R_append kU (w0 := w) w.heap.size rfl (.tmp 51) (.tmp 53) 23 64 (.int .u64 0) 8 rfl Tryz.underlying23 info_word rfl (by decide) (by omega) u5 acc cy [.int .u64 ((cy : Nat) : Int)] (fun _ => True) (fun _ => False) rfl rfl ?aP (fun _ hk => hk.elim) ?aF ?aO ?aB ?aS ?aL ?_; (case aP => exact rfl); (case aF => exact fun _ _ => trivial); (case aO => exact HO.out); (case aB => exact HBB.out); (case aS => exact (HBB.out).size); (case aL => (have := HG.out.1; omega)); intro v_1 w_1 ho hb _ _; have HO' := yk ho; have HB' := yk hb; clear ho hb)) | (go_at_call 89; go_must (obtain ⟨A1, c1, rfl, hc1, hC1⟩ := Kd.R_reads HO'.out; refine (norm_any (acc ++ [cy]) A1 c1 _ hC1 hc1 HV.out HLEN.out).mono ?_; rintro e w1 ⟨v, rfl, ho, hb⟩; rw [HF.out] at ho; have HO2 := yk ho; have HB2 := yk hb; clear ho hb)))
     go_ret
     exact ⟨_, rfl, Kd.R_lower HO2.out HB'.out.size, below_then HB'.out HB'.out.size HB2.out⟩
theorem sub_any (a b : List Nat) (A B : Option Addr) (na nb c d : Nat) (hna : a.length = na) (hnb : b.length = nb) (w : World) (ha : kU.C w A na a) (hb : kU.C w B nb b) (hc : na ≤ c) (hd : nb ≤ d) (wa : Wf a) (wb : Wf b) (la : na ≤ 2147483648) (lb : nb ≤ 2147483648) (hab0 : nv b ≤ nv a) :
 Calls Tryz.prog 56 #[.slice A na c, .slice B nb d] w fun e w' => ∃ v, e = .returned v ∧ kU.R 64 w' w.heap.size (fun _ => True) v (limbs (nv a - nv b)) ∧ BL w w' := by
 have HA := yk ha
 have HB := yk hb
 have WA := yk wa
 have WB := yk wb
 have HNA := yk hna
 have HNB := yk hnb
 have HAB := yk hab0
 clear ha hb wa wb hna hnb hab0
 rcases Nat.lt_or_ge na nb with hab | hab
 all_goals
  go_enter Tryz.func56, Tryz.ntmps56
  go_wp2
  go_loopw [5, 6, 7] (fun v5 v6 v7 wr => ∃ (k cy : Nat) (acc : List Nat), v6 = .int .u64 cy ∧ v7 = .int .i64 k ∧ cy ≤ 1 ∧ k ≤ 2147483648 ∧ (k ≤ na ∨ k ≤ nb) ∧ Aside0 (BL w wr) ∧ Aside0 (kU.R 64 wr w.heap.size (fun _ => True) v5 acc) ∧ Aside0 (acc.length = k ∧ Wf acc ∧ nv acc + nv (b.take k) = nv (a.take k) + 2 ^ (64 * k) * cy)) (fun _ _ v7 _ => na + nb - (intOf v7).toNat)
  case atStart => exact ⟨0, 0, [], rfl, rfl, by omega, by omega, by omega, ⟨Below.refl _ _⟩, ⟨Kd.R_nil _ _ _ _ _⟩, ⟨rfl, .nil, by simp [nv]⟩⟩
  case round =>
   obtain ⟨k, cy, acc, rfl, rfl, hcy, hk, hkk, HBB, HO, HG⟩ := hrel
   by_cases hlt : k < na ∨ k < nb
   · obtain ⟨x, hx⟩ : ∃ x, x = wd a k := ⟨_, rfl⟩
     obtain ⟨y, hy⟩ : ∃ y, y = wd b k := ⟨_, rfl⟩
     have HX := yk hx
     have HY := yk hy
     have hx64 : x < 18446744073709551616 := by rw [hx]; exact wd_lt WA.out k
     have hy64 : y < 18446744073709551616 := by rw [hy]; exact wd_lt WB.out k
     clear hx hy
     have QA : ∀ m, BL w m → Calls Tryz.prog 94 #[.slice A na c, .int .i64 (k : Int)] m fun e w' => e = .returned (.int .u64 (x : Int)) ∧ ∃ n, w' = m.drewN n := fun m hm => by
      have h1 := HNA.out; subst h1
      exact word_is a A c k x _ rfl HX.out.symm _ (Kd.C_below HA.out hm) hc (by omega)
     have QB : ∀ m, BL w m → Calls Tryz.prog 94 #[.slice B nb d, .int .i64 (k : Int)] m fun e w' => e = .returned (.int .u64 (y : Int)) ∧ ∃ n, w' = m.drewN n := fun m hm => by
      have h1 := HNB.out; subst h1
      exact word_is b B d k y _ rfl HY.out.symm _ (Kd.C_below HB.out hm) hd (by omega)
     have QA' := yk QA
     have QB' := yk QB
     clear QA QB
     obtain ⟨s, c', hs1, hs2, hs3, hs4⟩ : ∃ s c' : Nat, s < 18446744073709551616 ∧ c' ≤ 1 ∧ s + y + cy = x + 18446744073709551616 * c' ∧ IntKind.u64.wrap (IntKind.u64.wrap ((x : Int) - y) - cy) = (s : Int) := by
      by_cases hq : y + cy ≤ x
      · exact ⟨x - y - cy, 0, by omega, by omega, by omega, by unfold IntKind.wrap; simp [IntKind.bits, IntKind.signed] <;> omega⟩
      · exact ⟨18446744073709551616 + x - y - cy, 1, by omega, by omega, by omega, by unfold IntKind.wrap; simp [IntKind.bits, IntKind.signed] <;> omega⟩
     have hs5 : IntKind.u64.wrap ((x : Int) - y - cy) = (s : Int) := by rw [← hs4]; unfold IntKind.wrap; simp [IntKind.bits, IntKind.signed]
     have HT := yk (show (a.take (k + 1)).length ≤ k + 1 from by rw [List.length_take]; omega)
     have HS := yk hs3
     have hcase : (c' = 1 ∧ x < y) ∨ (c' = 1 ∧ x = y ∧ cy = 1) ∨ (c' = 0 ∧ y < x) ∨ (c' = 0 ∧ x = y ∧ cy = 0) := by omega
     clear hs3
     rcases hcase with ⟨hc1, hq⟩ | ⟨hc1, hq, hq1⟩ | ⟨hc1, hq⟩ | ⟨hc1, hq, hq1⟩
     case' inl => have hf : ((x : Int) == (y : Int)) = false := by simp; omega
     case' inr.inl => have hf : ((x : Int) == (y : Int)) = true := by simp [hq]
     case' inr.inl => have hf2 : y ≤ x := by omega
     case' inr.inl => have hf3 : ((cy : Int) == 1) = true := by simp [hq1]
     case' inr.inl => have HQ := yk hq; clear hq hq1
     case' inr.inr.inl => have hf : ((x : Int) == (y : Int)) = false := by simp; omega
     case' inr.inr.inr => have hf : ((x : Int) == (y : Int)) = true := by simp [hq]
     case' inr.inr.inr => have hf2 : y ≤ x := by omega
     case' inr.inr.inr => have hf3 : ((cy : Int) == 1) = false := by simp [hq1]
     case' inr.inr.inr => have HQ := yk hq; clear hq hq1
     case' inr.inr.inl => have hs6 : ((x : Int) - y - cy) = (s : Int) := by have := HS.out; omega
     case' inr.inr.inr => have hs6 : ((x : Int) - y - cy) = (s : Int) := by have := HS.out; have := HQ.out; omega
     all_goals subst hc1
     all_goals
      go_wp2_with (first | (go_at_call 94; first | (with_reducible refine (QA'.out _ ?hB).mono ?_; (case hB => first | exact HBB.out | exact pw_below_drewN HBB.out _); rintro e w' ⟨rfl, n1, rfl⟩) | (with_reducible refine (QB'.out _ ?hB).mono ?_; (case hB => first | exact HBB.out | exact pw_below_drewN HBB.out _); rintro e w' ⟨rfl, n2, rfl⟩)) | ((with_reducible refine gate_builtin (b := .append) (xs := #[.tmp 43, .tmp 45]) rfl ?_); at_builtin; go_must (refine Kd.R_append kU (w0 := w) w.heap.size rfl (.tmp 43) (.tmp 45) 23 64 (.int .u64 0) 8 rfl Tryz.underlying23 info_word rfl (by decide) (by omega) u5 acc s [.int .u64 ((s : Nat) : Int)] (fun _ => True) (fun _ => False) rfl rfl ?aP (fun _ hk => hk.elim) ?aF ?aO ?aB ?aS ?aL ?_; (case aP => exact rfl); (case aF => exact fun _ _ => trivial); (case aO => exact Kd.R_drewN HO.out _); (case aB => exact pw_below_drewN HBB.out _); (case aS => exact (pw_below_drewN HBB.out _).size); (case aL => (have := HG.out.1; omega)); intro v_1 w_1 ho hb _ _; have HO' := yk ho; have HB' := yk hb; clear ho hb)))
      clear hs4
      go_roundw
      case rel => exact ⟨k + 1, _, acc ++ [s], rfl, by go_num, by omega, by omega, by omega, HB', HO', ⟨by simp [HG.out.1], HG.out.2.1.snoc hs1, by
       rw [nv_snoc, nv_take_succ, nv_take_succ, HG.out.1, ← HX.out, ← HY.out]
       exact sub_step HG.out.2.2 HS.out rfl⟩⟩
      case measure => simp [intOf]; omega
   · have HF := yk (show nv acc = nv a - nv b by
      have h1 := HNA.out
      have h2 := HNB.out
      have h3 := HG.out.2.2
      rw [nv_take_all (by omega), nv_take_all (by omega)] at h3
      have h4 := HAB.out
      have h5 := nv_lt HG.out.2.1
      rw [HG.out.1] at h5
      rcases (show cy = 0 ∨ cy = 1 by omega) with h | h
      · subst h; omega
      · subst h; omega)
     have HLEN := yk (show acc.length ≤ 4294967296 by have := HG.out.1; omega)
     go_wp2_with (go_at_call 89; go_must (obtain ⟨A1, c1, rfl, hc1, hC1⟩ := Kd.R_reads HO.out; refine (norm_any acc A1 c1 _ hC1 hc1 HG.out.2.1 HLEN.out).mono ?_; rintro e w1 ⟨v, rfl, ho, hb⟩; rw [HF.out] at ho; have HO2 := yk ho; have HB2 := yk hb; clear ho hb))
     go_ret
     exact ⟨_, rfl, Kd.R_lower HO2.out HBB.out.size, below_then HBB.out HBB.out.size HB2.out⟩
theorem shl_any (a : List Nat) (A : Option Addr) (na c n : Nat) (hna : a.length = na) (w : World) (ha : kU.C w A na a) (hc : na ≤ c) (wa : Wf a) (la : na ≤ 1073741824) (ln : n ≤ 68719476736) :
 Calls Tryz.prog 53 #[.slice A na c, .int .i64 (n : Int)] w fun e w' => ∃ v, e = .returned v ∧ kU.R 64 w' w.heap.size (fun _ => True) v (limbs (nv a * 2 ^ n)) ∧ BL w w' := by
 have HA := yk ha
 have WA := yk wa
 have HNA := yk hna
 obtain ⟨q, hq⟩ : ∃ q, q = n / 64 := ⟨_, rfl⟩
 obtain ⟨k, hk⟩ : ∃ k, k = n % 64 := ⟨_, rfl⟩
 have hdv : (n : Int).tdiv 64 = (q : Int) := by rw [Int.tdiv_eq_ediv_of_nonneg (by omega)]; omega
 have hmd : (n : Int).tmod 64 = (k : Int) := by rw [Int.tmod_eq_emod_of_nonneg (by omega)]; omega
 have hk63 : k ≤ 63 := by omega
 have hq30 : q ≤ 1073741824 := by omega
 have HNK := yk (show n = 64 * q + k by omega)
 clear ha wa hna hq hk
 go_enter Tryz.func53, Tryz.ntmps53
 go_wp2_with ((with_reducible refine gate_dst (N := 12) rfl ?_); go_must (refine Kd.R_make kU (w0 := w) w.heap.size 64 rfl rfl 23 (.tmp 11) (.tmp 11) rfl (q : Int) ?mx ?my Tryz.underlying23 (.int .u64 0) 8 info_word rfl (by decide) (by decide) 0 (ok := fun _ => True) (okp := fun _ => False) ?mz (fun _ h => h.elim) trivial (by omega) ?ml yr (Nat.le_refl _) ?_; (case mx => rfl); (case my => rfl); (case mz => rfl); (case ml => omega); intro v_3 w_3 ho hb hg hown; rw [Int.toNat_natCast] at ho; have HO := yk ho; have B3 := yk hb; clear ho hb hg hown))
 go_loopw [5, 7, 18] (fun v5 v7 v18 wr => ∃ (i cy : Nat) (acc : List Nat), v7 = .int .u64 cy ∧ v18 = .int .i64 i ∧ i ≤ na ∧ cy < 18446744073709551616 ∧ Aside0 (BL w wr) ∧ Aside0 (kU.R 64 wr w.heap.size (fun _ => True) v5 acc) ∧ Aside0 (acc.length = q + i ∧ Wf acc ∧ cy < 2 ^ k ∧ nv acc + 2 ^ (64 * (q + i)) * cy = 2 ^ (64 * q) * (2 ^ k * nv (a.take i)))) (fun _ _ v18 _ => na - (intOf v18).toNat)
 case atStart => exact ⟨0, 0, _, rfl, rfl, Nat.zero_le _, by omega, B3, HO, ⟨by simp, Wf.replicate _, Nat.two_pow_pos _, by rw [nv_replicate]; simp [nv]⟩⟩
 case round =>
  obtain ⟨i, cy, acc, rfl, rfl, hi, hcy, HBB, HO1, HG⟩ := hrel
  by_cases hlt : i < na
  · obtain ⟨ad, x, rfl, hx0, hcell⟩ := at_word (Kd.C_below HA.out HBB.out) HNA.out i hlt
    have HX := yk (wd_of hx0)
    have hx64 : x < 18446744073709551616 := WA.out.get hx0
    clear hx0
    obtain ⟨h1, h2, h3, h4⟩ := shl_word hx64 hk63 HG.out.2.2.1
    obtain ⟨s, hs⟩ : ∃ s, s = x * 2 ^ k % 2 ^ 64 := ⟨_, rfl⟩
    obtain ⟨t, ht⟩ : ∃ t, t = s + cy := ⟨_, rfl⟩
    obtain ⟨c', hc'⟩ : ∃ c', c' = x / 2 ^ (64 - k) := ⟨_, rfl⟩
    have hd := Nat.mod_add_div (x * 2 ^ k) (2 ^ 64)
    rw [← hs, h3, ← hc'] at hd
    rw [← hs] at h1 h2
    rw [← hc'] at h4
    have hs64 : s < 18446744073709551616 := by rw [hs]; exact Nat.mod_lt _ (by decide)
    have hsh : IntKind.u64.wrap ((x : Int) * 2 ^ k) = (s : Int) := by
     rw [hs]; unfold IntKind.wrap; simp [IntKind.bits, IntKind.signed]
    have hor : bits .or .u64 (s : Int) (cy : Int) = (t : Int) := by
     rw [bits_or_u64_nat s cy hs64 hcy, h1, ht]
    have HT := yk (show t + 2 ^ 64 * c' = x * 2 ^ k + cy by omega)
    have HC4 := yk h4
    have hc64 : c' < 18446744073709551616 := Nat.lt_of_lt_of_le h4 (Nat.pow_le_pow_right (by decide) (show k ≤ 64 by omega))
    have ht64 : t < 18446744073709551616 := by omega
    have hshr : (x : Int) / 2 ^ (64 - k) = (c' : Int) := by rw [hc']; simp
    have HC' := yk hc'
    clear h1 h2 h3 h4 hd hs ht hc'
    by_cases hk0 : k = 0
    · have hkn : k ≤ 0 := by omega
      have HK0 := yk hk0
      have HC0 := yk (show c' = 0 by have := HC4.out; rw [hk0] at this; omega)
      clear hk0
      go_wp2_with ((with_reducible refine gate_builtin (b := .append) (xs := #[.tmp 22, .tmp 28]) rfl ?_); at_builtin; go_must (refine Kd.R_append kU (w0 := w) w.heap.size rfl (.tmp 22) (.tmp 28) 23 64 (.int .u64 0) 8 rfl Tryz.underlying23 info_word rfl (by decide) (by omega) u5 acc t [.int .u64 ((t : Nat) : Int)] (fun _ => True) (fun _ => False) rfl rfl ?aP (fun _ hk => hk.elim) ?aF ?aO ?aB ?aS ?aL ?_; (case aP => exact rfl); (case aF => exact fun _ _ => trivial); (case aO => exact HO1.out); (case aB => exact HBB.out); (case aS => exact (HBB.out).size); (case aL => (have := HG.out.1; omega)); intro v_1 w_1 ho hb _ _; have HO' := yk ho; have HB' := yk hb; clear ho hb))
      go_roundw
      case rel => exact ⟨i + 1, 0, acc ++ [t], rfl, by go_num, by omega, by omega, HB', HO', ⟨by simp [HG.out.1]; omega, HG.out.2.1.snoc ht64, Nat.two_pow_pos _, by
       rw [nv_snoc, nv_take_succ, HG.out.1, HX.out]
       exact shl_step HG.out.2.2.2 (by have := HT.out; rw [HC0.out] at this; exact this) rfl⟩⟩
      case measure => simp [intOf]; omega
    · have hkp : 0 < k := by omega
      go_wp2_with ((with_reducible refine gate_builtin (b := .append) (xs := #[.tmp 22, .tmp 28]) rfl ?_); at_builtin; go_must (refine Kd.R_append kU (w0 := w) w.heap.size rfl (.tmp 22) (.tmp 28) 23 64 (.int .u64 0) 8 rfl Tryz.underlying23 info_word rfl (by decide) (by omega) u5 acc t [.int .u64 ((t : Nat) : Int)] (fun _ => True) (fun _ => False) rfl rfl ?aP (fun _ hk => hk.elim) ?aF ?aO ?aB ?aS ?aL ?_; (case aP => exact rfl); (case aF => exact fun _ _ => trivial); (case aO => exact HO1.out); (case aB => exact HBB.out); (case aS => exact (HBB.out).size); (case aL => (have := HG.out.1; omega)); intro v_1 w_1 ho hb _ _; have HO' := yk ho; have HB' := yk hb; clear ho hb))
      go_roundw
      case rel => exact ⟨i + 1, c', acc ++ [t], rfl, by go_num, by omega, by omega, HB', HO', ⟨by simp [HG.out.1]; omega, HG.out.2.1.snoc ht64, HC4.out, by
       rw [nv_snoc, nv_take_succ, HG.out.1, HX.out]
       exact shl_step HG.out.2.2.2 HT.out rfl⟩⟩
      case measure => simp [intOf]; omega
  · obtain rfl : i = na := by omega
    have HF := yk (show nv (acc ++ [cy]) = nv a * 2 ^ n by
     have h3 := HG.out.2.2.2
     rw [nv_take_all (by rw [HNA.out]; omega)] at h3
     rw [nv_snoc, HG.out.1, h3, HNK.out, Nat.pow_add]
     grind)
    have HV := yk (show Wf (acc ++ [cy]) from HG.out.2.1.snoc hcy)
    have HLEN := yk (show (acc ++ [cy]).length ≤ 4294967296 by have := HG.out.1; simp; omega)
    go_wp2_with (first | ((with_reducible refine gate_builtin (b := .append) (xs := #[.tmp 37, .tmp 39]) rfl ?_); at_builtin; go_must (refine Kd.R_append kU (w0 := w) w.heap.size rfl (.tmp 37) (.tmp 39) 23 64 (.int .u64 0) 8 rfl Tryz.underlying23 info_word rfl (by decide) (by omega) u5 acc cy [.int .u64 ((cy : Nat) : Int)] (fun _ => True) (fun _ => False) rfl rfl ?aP (fun _ hk => hk.elim) ?aF ?aO ?aB ?aS ?aL ?_; (case aP => exact rfl); (case aF => exact fun _ _ => trivial); (case aO => exact HO1.out); (case aB => exact HBB.out); (case aS => exact (HBB.out).size); (case aL => (have := HG.out.1; omega)); intro v_1 w_1 ho hb _ _; have HO' := yk ho; have HB' := yk hb; clear ho hb)) | (go_at_call 89; go_must (obtain ⟨A1, c1, rfl, hc1, hC1⟩ := Kd.R_reads HO'.out; refine (norm_any (acc ++ [cy]) A1 c1 _ hC1 hc1 HV.out HLEN.out).mono ?_; rintro e w1 ⟨v, rfl, ho, hb⟩; rw [HF.out] at ho; have HO2 := yk ho; have HB2 := yk hb; clear ho hb)))
    go_ret
    exact ⟨_, rfl, Kd.R_lower HO2.out HB'.out.size, below_then HB'.out HB'.out.size HB2.out⟩
def nearF (z : Int) (k : Nat) : Int := if ((z + 2 ^ k) / 2 ^ (k + 1)) % 2 ≠ 0 ∧ (z + 2 ^ k) / 2 ^ (k + 1) * 2 ^ (k + 1) - z = 2 ^ k then (z + 2 ^ k) / 2 ^ (k + 1) - 1 else (z + 2 ^ k) / 2 ^ (k + 1)
def PT (w : World) (b : Nat) (v : Value) (z e : Int) (s : Bool) : Prop :=
 ∃ bb A n c x, v = .agg #[.bool bb, .slice A n c, .int .i64 x, .bool s] ∧ PDy w b (.agg #[.bool bb, .slice A n c, .int .i64 x]) z e
section
variable {w w1 : World} {b b' g : Nat} {v : Value} {z e : Int} {s : Bool}
def PS (w : World) (b : Nat) (v : Value) (k z e : Int) : Prop :=
 ∃ bb A n c x, v = .agg #[.int .i64 k, .bool bb, .slice A n c, .int .i64 x] ∧ PDy w b (.agg #[.bool bb, .slice A n c, .int .i64 x]) z e
end
def tenI (i : Nat) : Int := 10 ^ i
def sel (l0 l1 l2 l3 k : Int) : Int := if k = 0 then l0 else if k = 1 then l1 else if k = 2 then l2 else l3
def PO (w : World) (b : Nat) (v : Value) (o : Option (Int × Int)) : Prop := PT w b v (o.getD (0, 0)).1 (o.getD (0, 0)).2 o.isSome
def tanF (k r M : Int) : Option (Int × Int) :=
 if r = 0 then (if k.tmod 2 = 0 then some (0, 0) else none)
 else if (r.natAbs : Int) = M then (if (k.tmod 2 == 0) == decide (0 < r) then some (1, 0) else some (-1, 0)) else none
def smallF (M z lo hi : Int) : Option Int := if z % M = 0 ∧ lo * M ≤ z ∧ z ≤ hi * M then some (z / M) else none
def powV (n less : Int) : Int × Int := (2 ^ (n - min n 0).toNat - less * 2 ^ (-(min n 0)).toNat, min n 0)
def Enters (m : Nat) : Prop := ∀ (args : Array Value) (W : World), (callFunc m args).run Tryz.prog W = .ok (.enter m args) W
def Clo (w : World) (b m : Nat) (cap : Array Value) (G : Int → Option (Int × Int)) : Prop :=
 Enters m ∧ ∀ (W : World) (u : Value) (z : Int), BL w W → CDy W u z (-1074) → z.natAbs < 2 ^ 2098 → TB W →
  Calls Tryz.prog m (#[u] ++ cap) W fun en W' => ∃ v', en = .returned v' ∧ PO W' b v' (G z) ∧ BL W W'
def SpotFn (m : Nat) (K : Int → Int → Option (Int × Int)) : Prop :=
 Enters m ∧ ∀ (W : World) (b : Nat) (v : Value) (k r : Int), PS W b v k r (-1074) → r.natAbs < 2 ^ 3500 → (k = 0 ∨ k = 1 ∨ k = 2 ∨ k = 3) → TB W →
  Calls Tryz.prog m #[v] W fun en W' => ∃ v', en = .returned v' ∧ PO W' W.heap.size v' (K k r) ∧ BL W W'
def firstF (Gs : Nat → Int → Option (Int × Int)) (z : Int) : Option (Int × Int) := (Gs 0 z).or ((Gs 1 z).or (Gs 2 z))
def log2F (t : Int) : Option (Int × Int) := if cman t = 1 then some (cexp t (-1074), 0) else none
def logF (M : Int) (most : Nat) (t : Int) : Option (Int × Int) := ((List.range (most + 1)).find? (fun j => decide (t = tenI j * M))).map (fun j => ((j : Int), 0))
def atF (n : Int) (y : Int × Int) (z : Int) : Option (Int × Int) := if z = n * 2 ^ 1074 then some y else none
def pow2F (less lo hi : Int) (z : Int) : Option (Int × Int) := (smallF (2 ^ 1074) z lo hi).map (fun n => powV n less)
def pow10F (less lo hi : Int) (z : Int) : Option (Int × Int) := (smallF (2 ^ 1074) z lo hi).map (fun n => (tenI n.toNat - less, 0))
def lg2F (more : Int) (z : Int) : Option (Int × Int) := log2F (z + more * 2 ^ 1074)
def lg10F (more : Int) (most : Nat) (z : Int) : Option (Int × Int) := logF (2 ^ 1074) most (z + more * 2 ^ 1074)
def turnF (K : Int → Int → Option (Int × Int)) (z : Int) : Option (Int × Int) := K (nearF z 1072 % 4) (z - nearF z 1072 * 2 ^ 1073)
def or3 (G0 G1 G2 : Int → Option (Int × Int)) (z : Int) : Option (Int × Int) := (G0 z).or ((G1 z).or (G2 z))
def MapB (w : World) (m : Nat) (L : List Value) : Prop :=
 ∃ es clock, w.heap[m]? = some (.map es clock) ∧ es.toList.map (·.key) = (List.range L.length).map (fun i : Nat => Value.int .u8 ((i : Int) + 1)) ∧ es.toList.map (·.val) = L
section
variable {P : Program} {ops : Array Oper} {rest : List Oper} {o : Oper} {a : Act} {Q : Exit → Act → World → Prop} {W : World}
end
def sineK (k r : Int) : Option (Int × Int) := if r = 0 then some (sel 0 1 0 (-1) k, 0) else none
def cosineK (k r : Int) : Option (Int × Int) := if r = 0 then some (sel 1 0 (-1) 0 k, 0) else none
def tangentK (k r : Int) : Option (Int × Int) := tanF k r (2 ^ 1072)
def caseL : List (Int → Option (Int × Int)) := [atF 0 (1, 0), pow2F 0 (-16384) 16384, pow10F 0 0 23, atF 0 (0, 0), pow2F 1 (-54) 54, pow10F 1 0 16, atF 1 (0, 0), lg2F 0, lg10F 0 22, atF 0 (0, 0), lg2F 1, lg10F 1 16, atF 0 (0, 0), atF 0 (1, 0), atF 0 (0, 0), turnF sineK, turnF cosineK, turnF tangentK, atF 0 (0, 0), atF 1 (0, 0), atF 0 (0, 0), or3 (atF 0 (0, 0)) (atF 1 (1, 0 + -1)) (atF (-1) (-1, 0 + -1)), or3 (atF 1 (0, 0)) (atF 0 (1, 0 + -1)) (atF (-1) (1, 0)), or3 (atF 0 (0, 0)) (atF 1 (1, 0 + -2)) (atF (-1) (-1, 0 + -2)), atF 0 (0, 0), atF 0 (1, 0), atF 0 (0, 0), atF 0 (0, 0), atF 1 (0, 0), atF 0 (0, 0)]
def insideF (f : Nat) (z : Int) : Bool :=
 if f = 7 ∨ f = 8 ∨ f = 9 then decide (0 < z)
 else if f = 10 ∨ f = 11 ∨ f = 12 then decide (-1 * 2 ^ 1074 < z)
 else if f = 18 then (!decide (z - nearF z 1072 * 2 ^ 1073 = 0) || (Int.tmod (nearF z 1072 % 4) 2 == 0))
 else if f = 19 ∨ f = 20 ∨ f = 22 ∨ f = 23 then decide ((z.natAbs : Int) ≤ 1 * 2 ^ 1074)
 else if f = 29 then decide (1 * 2 ^ 1074 ≤ z)
 else if f = 30 then decide ((z.natAbs : Int) < 1 * 2 ^ 1074)
 else true
def finB (x : Nat) : Bool := decide (x % 9223372036854775808 < 9218868437227405312)
def errB (b : Bool) : Int := if b = true then 0 else 5
def fromV (x : Nat) : Int := if finB x = true then valI x else 0
def isF (f : Nat) : Bool := decide (1 ≤ f ∧ f ≤ 30)
def domF (f x : Nat) : Bool := isF f && finB x && insideF f (fromV x)
def caseG (f : Nat) (z : Int) : Option (Int × Int) := ((caseL[f - 1]?).getD (fun _ => none)) z
def exE (f x : Nat) : Int := if isF f = true then (if domF f x = true then 0 else 5) else 2
def exO (f x : Nat) : Option (Int × Int) := if isF f = true ∧ domF f x = true then caseG f (fromV x) else none
def HasClo (w : World) (b : Nat) (v : Value) (G : Int → Option (Int × Int)) : Prop := ∃ n cap, v = .func (.func n) #[] cap ∧ Clo w b n cap G
def angF (f : Nat) (y x : Int) : Option (Int × Int) :=
 if y = 0 ∧ 0 < x then some (0, 0) else if f = 33 then none else if y = 0 then some (1, 0) else if x = 0 then some (sgnI y, 0 + -1)
 else if ¬ (y.natAbs : Int) = x.natAbs then none else if 0 < x then some (sgnI y, 0 + -2) else some (3 * sgnI y, 0 + -2)
def is2F (f : Nat) : Bool := decide (f = 33) || decide (f = 34)
def bad2 (y x : Nat) : Bool := !finB y || !finB x || (decide (fromV y = 0) && decide (fromV x = 0))
def exE2 (f y x : Nat) : Int := if is2F f = true then (if bad2 y x = true then 5 else 0) else 2
def exO2 (f y x : Nat) : Option (Int × Int) := if is2F f = true ∧ bad2 y x = false then angF f (fromV y) (fromV x) else none
theorem RDy.ex {w : World} {b : Nat} {v : Value} {z e : Int} (h : RDy w b v z e) : ∃ bb A n c x, v = .agg #[.bool bb, .slice A n c, .int .i64 x] := by
 obtain ⟨A, n, c, rfl, hr⟩ := h
 exact ⟨_, _, _, _, _, rfl⟩
theorem RDy.grown_box {w w1 : World} {b g : Nat} {v : Value} {z e : Int} {t : TypeId} {cells : Array Value} (h : RDy w b v z e) (hb : w.heap[g]? = some (.cells cells t (0, 0))) (ht : 64 ≠ t) (hg : w.grownBy w1 (some g)) : RDy w1 b v z e := by
 obtain ⟨A, n, c, rfl, hr⟩ := h
 refine ⟨A, n, c, rfl, Kd.R_mono (Kd.R_grown (Kd.R_types hr hb ?_) hg ?_) (fun _ _ => trivial)⟩
 · intro q hq
   rcases List.mem_cons.1 hq with rfl | hq
   · exact ht
   · cases hq
 · rintro k ⟨_, hk⟩ he
   cases he
   exact hk rfl
theorem dint_neg {n : Int} (w : World) (hn : n < 0) (h1 : -9223372036854775808 ≤ n) (h2 : n < 9223372036854775808) :
 Calls Tryz.prog 21 #[.int .i64 n] w fun en w' => ∃ v', en = .returned v' ∧ RDy w' w.heap.size v' n 0 ∧ BL w w' := by
 obtain ⟨m, hm⟩ : ∃ m, m = n.natAbs := ⟨_, rfl⟩
 have hm64 : m < 18446744073709551616 := by omega
 have QO := yk (fun (W : World) => of_any m hm64 W)
 have QF := yk (fun (A : Option Addr) (c : Nat) (W : World) (hC : kU.C W A (limbs m).length (limbs m)) (hc : (limbs m).length ≤ c) => (by
  have hl : (limbs m).length ≤ 1 := limbs_len_le (by omega)
  have q := form_any (decide (n < 0)) (limbs m) A _ c 0 rfl W hC hc (wf_limbs _) (by omega) (by omega) (by omega)
  rw [nv_limbs, hm, show sgn (decide (n < 0)) n.natAbs = n from sgn_self n, ← hm] at q
  exact q : Calls Tryz.prog 46 #[.bool (decide (n < 0)), .slice A (limbs m).length c, .int .i64 0] W fun en w' => ∃ v', en = .returned v' ∧ RDy w' W.heap.size v' n 0 ∧ BL W w'))
 obtain ⟨a0, e1, e2⟩ : ∃ a0 : Nat, IntKind.u64.wrap n = (a0 : Int) ∧ IntKind.u64.wrap (-(a0 : Int)) = (m : Int) := ⟨(n % 18446744073709551616).toNat, by unfold IntKind.wrap; simp [IntKind.bits, IntKind.signed]; omega, by unfold IntKind.wrap; simp [IntKind.bits, IntKind.signed]; omega⟩
 have e3 : IntKind.u64.wrap (0 - (a0 : Int)) = (m : Int) := by rw [Int.zero_sub]; exact e2
 have hd : decide (n < 0) = true := decide_eq_true hn
 rw [hd] at QF
 clear hm h1 h2
 go_enter Tryz.func21, Tryz.ntmps21
 obtain ⟨BEL, XR⟩ := al1 w 1 #[.bool false, .slice none 0 0, .int .i64 0] 25
 go_wp2_with fail
 go_at_call 47
 refine (QO.out _).mono ?_
 rintro en1 w1 ⟨v1, rfl, ho, hb⟩
 replace BEL := yk (BEL.out.next hb)
 replace XR := yk (yb XR.out hb)
 obtain ⟨A1, c1, rfl, hc1, hC1⟩ := Kd.R_reads ho
 have HC := yk hC1
 have HCC := yk hc1
 clear ho hb hC1 hc1
 go_wp2_with fail
 go_at_call 46
 refine (QF.out _ _ _ HC.out HCC.out).mono ?_
 have BL0 := BEL
 rintro en2 w2 ⟨v2, rfl, hr, hb⟩
 replace BEL := yk (BEL.out.next hb)
 replace XR := yk (yb XR.out hb)
 have P2 := yk hr
 obtain ⟨b2, A2, n2, c2, x2, rfl⟩ := hr.ex
 clear hr hb
 go_wp2_with (((with_reducible refine gate_store (p := 2) rfl ?_); go_must (refine sdy 2 (.tmp 9) rfl rfl rfl rfl rfl XR.out rfl ?_; intro wb HX HG)); replace P2 := yk (P2.out.grown_box XR.out (by decide) HG.out); replace BEL := yk (BEL.out.grown HG.out (by omega)); replace XR := HX; clear HG)
 refine bodyPost_ret (results_dyad rfl _ _ (w.heap.size) _ rfl XR.out rfl) rfl ?_
 exact ⟨_, rfl, P2.out.lower BL0.out.1.size, BEL.out.1⟩
theorem dint_pos {n : Int} (w : World) (hn : ¬ n < 0) (h1 : -9223372036854775808 ≤ n) (h2 : n < 9223372036854775808) :
 Calls Tryz.prog 21 #[.int .i64 n] w fun en w' => ∃ v', en = .returned v' ∧ RDy w' w.heap.size v' n 0 ∧ BL w w' := by
 obtain ⟨m, hm⟩ : ∃ m, m = n.natAbs := ⟨_, rfl⟩
 have hm64 : m < 18446744073709551616 := by omega
 have QO := yk (fun (W : World) => of_any m hm64 W)
 have QF := yk (fun (A : Option Addr) (c : Nat) (W : World) (hC : kU.C W A (limbs m).length (limbs m)) (hc : (limbs m).length ≤ c) => (by
  have hl : (limbs m).length ≤ 1 := limbs_len_le (by omega)
  have q := form_any (decide (n < 0)) (limbs m) A _ c 0 rfl W hC hc (wf_limbs _) (by omega) (by omega) (by omega)
  rw [nv_limbs, hm, show sgn (decide (n < 0)) n.natAbs = n from sgn_self n, ← hm] at q
  exact q : Calls Tryz.prog 46 #[.bool (decide (n < 0)), .slice A (limbs m).length c, .int .i64 0] W fun en w' => ∃ v', en = .returned v' ∧ RDy w' W.heap.size v' n 0 ∧ BL W w'))
 have e1 : IntKind.u64.wrap n = (m : Int) := by unfold IntKind.wrap; simp [IntKind.bits, IntKind.signed]; omega
 have hd : decide (n < 0) = false := decide_eq_false hn
 have hn2 : 0 ≤ n := by omega
 rw [hd] at QF
 clear hm h1 h2 hn
 go_enter Tryz.func21, Tryz.ntmps21
 obtain ⟨BEL, XR⟩ := al1 w 1 #[.bool false, .slice none 0 0, .int .i64 0] 25
 go_wp2_with fail
 go_at_call 47
 refine (QO.out _).mono ?_
 rintro en1 w1 ⟨v1, rfl, ho, hb⟩
 replace BEL := yk (BEL.out.next hb)
 replace XR := yk (yb XR.out hb)
 obtain ⟨A1, c1, rfl, hc1, hC1⟩ := Kd.R_reads ho
 have HC := yk hC1
 have HCC := yk hc1
 clear ho hb hC1 hc1
 go_wp2_with fail
 go_at_call 46
 refine (QF.out _ _ _ HC.out HCC.out).mono ?_
 have BL0 := BEL
 rintro en2 w2 ⟨v2, rfl, hr, hb⟩
 replace BEL := yk (BEL.out.next hb)
 replace XR := yk (yb XR.out hb)
 have P2 := yk hr
 obtain ⟨b2, A2, n2, c2, x2, rfl⟩ := hr.ex
 clear hr hb
 go_wp2_with (((with_reducible refine gate_store (p := 2) rfl ?_); go_must (refine sdy 2 (.tmp 13) rfl rfl rfl rfl rfl XR.out rfl ?_; intro wb HX HG)); replace P2 := yk (P2.out.grown_box XR.out (by decide) HG.out); replace BEL := yk (BEL.out.grown HG.out (by omega)); replace XR := HX; clear HG)
 refine bodyPost_ret (results_dyad rfl _ _ (w.heap.size) _ rfl XR.out rfl) rfl ?_
 exact ⟨_, rfl, P2.out.lower BL0.out.1.size, BEL.out.1⟩
theorem dint_any (n : Int) (w : World) (h1 : -9223372036854775808 ≤ n) (h2 : n < 9223372036854775808) :
 Calls Tryz.prog 21 #[.int .i64 n] w fun en w' => ∃ v', en = .returned v' ∧ RDy w' w.heap.size v' n 0 ∧ BL w w' := by
 by_cases hn : n < 0
 · exact dint_neg w hn h1 h2
 · exact dint_pos w hn h1 h2
def fewP (v : Int) : Prop := cman v < 2 ^ 54
def FewG (G : Int → Option (Int × Int)) : Prop := ∀ z v e, z.natAbs < 2 ^ 2098 → G z = some (v, e) → fewP v
def OkG (G : Int → Option (Int × Int)) : Prop := ∀ z v e, z.natAbs < 2 ^ 2098 → G z = some (v, e) → Ok v e
def ordS (a b : Int) : Int := if a < b then -1 else if b < a then 1 else 0
def NDy (w : World) (v : Value) (z e : Int) : Prop := ∃ (b : Bool) (l : List Nat) (A : Option Addr) (n c : Nat) (x : Int), v = .agg #[.bool b, .slice A n c, .int .i64 x] ∧ kU.C w A n l ∧ l.length = n ∧ n ≤ c ∧ Wf l ∧ n ≤ 1024 ∧ -1048576 ≤ x ∧ x ≤ 1048576 ∧ ((nv l = 0 ∧ z = 0) ∨ ∃ k : Nat, x = e + k ∧ z = sgn b (nv l) * 2 ^ k)
theorem nat_tdiv (x : Nat) : (x : Int).tdiv 4294967296 = ((x / 4294967296 : Nat) : Int) := by rw [Int.tdiv_eq_ediv_of_nonneg (by omega)]; omega
theorem nat_tmod (x : Nat) : (x : Int).tmod 4294967296 = ((x % 4294967296 : Nat) : Int) := by rw [Int.tmod_eq_emod_of_nonneg (by omega)]; omega
theorem nat_wrap {x : Nat} (h : x ≤ 18446744073709551615) {y : Int} (e : y = (x : Int)) : IntKind.u64.wrap y = (x : Int) := by subst e; exact wrap_u64 (by omega) (by omega)
theorem times_arith {x y a b c d ac bc ad bd mid oth : Nat} (hx : x = a + 4294967296 * b) (hy : y = c + 4294967296 * d) (e1 : ac = a * c) (e2 : bc = b * c) (e3 : ad = a * d) (e4 : bd = b * d) (e5 : mid = bc + ac / 4294967296) (e6 : oth = ad + mid % 4294967296) :
 (ac % 4294967296 + oth % 4294967296 * 4294967296) + 2 ^ 64 * (bd + mid / 4294967296 + oth / 4294967296) = x * y := by
 have h1 := Nat.div_add_mod ac 4294967296
 have h2 := Nat.div_add_mod mid 4294967296
 have h3 := Nat.div_add_mod oth 4294967296
 have e : x * y = ac + 4294967296 * (bc + ad) + 4294967296 * 4294967296 * bd := by rw [hx, hy, e1, e2, e3, e4]; grind
 rw [e]
 omega
theorem times_any (x y : Nat) (hx : x < 18446744073709551616) (hy : y < 18446744073709551616) (w : World) :
 Calls Tryz.prog 136 #[.int .u64 (x : Int), .int .u64 (y : Int)] w fun e w' => (∃ lo hi : Nat, e = .returned (.tuple #[.int .u64 (lo : Int), .int .u64 (hi : Int)]) ∧ lo < 18446744073709551616 ∧ hi < 18446744073709551616 ∧ lo + 18446744073709551616 * hi = x * y) ∧ ∃ n, w' = w.drewN n := by
 obtain ⟨a, ha⟩ : ∃ a, a = x % 4294967296 := ⟨_, rfl⟩
 obtain ⟨b, hb⟩ : ∃ b, b = x / 4294967296 := ⟨_, rfl⟩
 obtain ⟨c, hc⟩ : ∃ c, c = y % 4294967296 := ⟨_, rfl⟩
 obtain ⟨d, hd⟩ : ∃ d, d = y / 4294967296 := ⟨_, rfl⟩
 have ha1 : a ≤ 4294967295 := by omega
 have hb1 : b ≤ 4294967295 := by omega
 have hc1 : c ≤ 4294967295 := by omega
 have hd1 : d ≤ 4294967295 := by omega
 have ea : (x : Int).tmod 4294967296 = (a : Int) := by rw [nat_tmod, ha]
 have eb : (x : Int).tdiv 4294967296 = (b : Int) := by rw [nat_tdiv, hb]
 have ec : (y : Int).tmod 4294967296 = (c : Int) := by rw [nat_tmod, hc]
 have ed : (y : Int).tdiv 4294967296 = (d : Int) := by rw [nat_tdiv, hd]
 have HX := yk (show x = a + 4294967296 * b by omega)
 have HY := yk (show y = c + 4294967296 * d by omega)
 clear ha hb hc hd
 have mul_le : ∀ {u v : Nat}, u ≤ 4294967295 → v ≤ 4294967295 → u * v ≤ 18446744065119617025 := fun h1 h2 => Nat.mul_le_mul h1 h2
 obtain ⟨ac, hac⟩ : ∃ ac, ac = a * c := ⟨_, rfl⟩
 obtain ⟨bc, hbc⟩ : ∃ bc, bc = b * c := ⟨_, rfl⟩
 obtain ⟨ad, had⟩ : ∃ ad, ad = a * d := ⟨_, rfl⟩
 obtain ⟨bd, hbd⟩ : ∃ bd, bd = b * d := ⟨_, rfl⟩
 have lac : ac ≤ 18446744065119617025 := hac ▸ mul_le ha1 hc1
 have lbc : bc ≤ 18446744065119617025 := hbc ▸ mul_le hb1 hc1
 have lad : ad ≤ 18446744065119617025 := had ▸ mul_le ha1 hd1
 have lbd : bd ≤ 18446744065119617025 := hbd ▸ mul_le hb1 hd1
 have e1 : IntKind.u64.wrap ((a : Int) * c) = (ac : Int) := nat_wrap (by omega) (by rw [hac]; simp)
 have e2 : IntKind.u64.wrap ((b : Int) * c) = (bc : Int) := nat_wrap (by omega) (by rw [hbc]; simp)
 have e3 : IntKind.u64.wrap ((a : Int) * d) = (ad : Int) := nat_wrap (by omega) (by rw [had]; simp)
 have e4 : IntKind.u64.wrap ((b : Int) * d) = (bd : Int) := nat_wrap (by omega) (by rw [hbd]; simp)
 have f1 : (ac : Int).tdiv 4294967296 = ((ac / 4294967296 : Nat) : Int) := nat_tdiv ac
 have f2 : (ac : Int).tmod 4294967296 = ((ac % 4294967296 : Nat) : Int) := nat_tmod ac
 obtain ⟨aq, haq⟩ : ∃ aq, aq = ac / 4294967296 := ⟨_, rfl⟩
 obtain ⟨ar, har⟩ : ∃ ar, ar = ac % 4294967296 := ⟨_, rfl⟩
 rw [← haq] at f1
 rw [← har] at f2
 have laq : aq ≤ 4294967295 := by omega
 have lar : ar ≤ 4294967295 := by omega
 obtain ⟨mid, hmid⟩ : ∃ mid, mid = bc + aq := ⟨_, rfl⟩
 have lmid : mid ≤ 18446744069414584320 := by omega
 have e5 : IntKind.u64.wrap ((bc : Int) + aq) = (mid : Int) := nat_wrap (by omega) (by omega)
 have f3 : (mid : Int).tdiv 4294967296 = ((mid / 4294967296 : Nat) : Int) := nat_tdiv mid
 have f4 : (mid : Int).tmod 4294967296 = ((mid % 4294967296 : Nat) : Int) := nat_tmod mid
 obtain ⟨mq, hmq⟩ : ∃ mq, mq = mid / 4294967296 := ⟨_, rfl⟩
 obtain ⟨mr, hmr⟩ : ∃ mr, mr = mid % 4294967296 := ⟨_, rfl⟩
 rw [← hmq] at f3
 rw [← hmr] at f4
 have lmq : mq ≤ 4294967295 := by omega
 have lmr : mr ≤ 4294967295 := by omega
 obtain ⟨oth, hoth⟩ : ∃ oth, oth = ad + mr := ⟨_, rfl⟩
 have loth : oth ≤ 18446744069414584320 := by omega
 have e6 : IntKind.u64.wrap ((ad : Int) + mr) = (oth : Int) := nat_wrap (by omega) (by omega)
 have f5 : (oth : Int).tdiv 4294967296 = ((oth / 4294967296 : Nat) : Int) := nat_tdiv oth
 have f6 : (oth : Int).tmod 4294967296 = ((oth % 4294967296 : Nat) : Int) := nat_tmod oth
 obtain ⟨oq, hoq⟩ : ∃ oq, oq = oth / 4294967296 := ⟨_, rfl⟩
 obtain ⟨o0, ho0⟩ : ∃ o0, o0 = oth % 4294967296 := ⟨_, rfl⟩
 rw [← hoq] at f5
 rw [← ho0] at f6
 have loq : oq ≤ 4294967295 := by omega
 have lo0 : o0 ≤ 4294967295 := by omega
 have HT : Aside0 ((ar + o0 * 4294967296) + 18446744073709551616 * (bd + mq + oq) = x * y) := ⟨by
  have := times_arith (mid := mid) (oth := oth) HX.out HY.out hac hbc had hbd (by omega) (by omega)
  omega⟩
 have lhi : bd + mq + oq ≤ 18446744073709551615 := by
  have h1 := HT.out
  have h2 : x * y < 18446744073709551616 * 18446744073709551616 := Nat.mul_lt_mul'' hx hy
  rw [← h1] at h2
  omega
 obtain ⟨low, hlow⟩ : ∃ low, low = ar + o0 * 4294967296 := ⟨_, rfl⟩
 have llow : low ≤ 18446744073709551615 := by omega
 have e7 : IntKind.u64.wrap ((o0 : Int) * 4294967296) = ((o0 * 4294967296 : Nat) : Int) := nat_wrap (by omega) (by omega)
 have e8 : IntKind.u64.wrap ((ar : Int) + (o0 * 4294967296 : Nat)) = (low : Int) := nat_wrap (by omega) (by omega)
 have e9 : IntKind.u64.wrap ((ar : Int) + (o0 : Int) * 4294967296) = (low : Int) := nat_wrap (by omega) (by omega)
 rw [← hlow] at HT
 clear hac hbc had hbd haq har hmid hmq hmr hoth hoq ho0 hlow mul_le hx hy
 go_enter Tryz.func136, Tryz.ntmps136
 go_wp2
 go_ret2
 exact ⟨⟨low, bd + mq + oq, rfl, by omega, by omega, HT.out⟩, ⟨0, rfl⟩⟩
theorem norm_read (l : List Nat) (A : Option Addr) (n c N : Nat) (L : List Nat) (hn : l.length = n) (hL : L = limbs (nv l)) (hN : N = L.length) (w m : World) (hr : kU.C w A n l) (hc : n ≤ c) (hw : Wf l) (hl : n ≤ 4294967296) (hb : BL w m) :
 Calls Tryz.prog 89 #[.slice A n c] m fun e w' => ∃ A1 c1, e = .returned (.slice A1 N c1) ∧ N ≤ c1 ∧ kU.C w' A1 N L ∧ BL w w' ∧ BL m w' := by
 subst hn hL hN
 refine (norm_any l A c m (Kd.C_below hr hb) hc hw hl).mono ?_
 rintro e w' ⟨v, rfl, ho, hb2⟩
 obtain ⟨A1, c1, rfl, hc1, hC1⟩ := Kd.R_reads ho
 exact ⟨A1, c1, rfl, hc1, hC1, below_then hb hb.size hb2, hb2⟩
theorem times_is (x y lo hi : Nat) (hx : x < 18446744073709551616) (hy : y < 18446744073709551616) (h1 : lo < 18446744073709551616) (h2 : lo + 18446744073709551616 * hi = x * y) (w : World) :
 Calls Tryz.prog 136 #[.int .u64 (x : Int), .int .u64 (y : Int)] w fun e w' => e = .returned (.tuple #[.int .u64 (lo : Int), .int .u64 (hi : Int)]) ∧ ∃ n, w' = w.drewN n := by
 refine (times_any x y hx hy w).mono ?_
 rintro e w' ⟨⟨lo', hi', rfl, e1, e2, e3⟩, hn⟩
 obtain rfl : lo' = lo := by omega
 obtain rfl : hi' = hi := by omega
 exact ⟨rfl, hn⟩
theorem mul_any (a b : List Nat) (A B : Option Addr) (na nb c d : Nat) (hna : a.length = na) (hnb : b.length = nb) (w : World) (ha : kU.C w A na a) (hb : kU.C w B nb b) (hc : na ≤ c) (hd : nb ≤ d) (wa : Wf a) (wb : Wf b) (la : na ≤ 1073741824) (lb : nb ≤ 1073741824) :
 Calls Tryz.prog 107 #[.slice A na c, .slice B nb d] w fun e w' => ∃ v, e = .returned v ∧ kU.R 64 w' w.heap.size (fun _ => True) v (limbs (nv a * nv b)) ∧ BL w w' := by
 obtain ⟨L, hL⟩ : ∃ L, L = limbs (nv a) := ⟨_, rfl⟩
 obtain ⟨M, hM⟩ : ∃ M, M = limbs (nv b) := ⟨_, rfl⟩
 obtain ⟨n1, hn1⟩ : ∃ n, n = L.length := ⟨_, rfl⟩
 obtain ⟨n2, hn2⟩ : ∃ n, n = M.length := ⟨_, rfl⟩
 have ln1 : n1 ≤ 1073741824 := by have := limbs_nv_len wa; rw [hn1, hL]; omega
 have ln2 : n2 ≤ 1073741824 := by have := limbs_nv_len wb; rw [hn2, hM]; omega
 have WL := yk (show Wf L by rw [hL]; exact wf_limbs _)
 have WM := yk (show Wf M by rw [hM]; exact wf_limbs _)
 have VL := yk (show nv L = nv a by rw [hL, nv_limbs])
 have VM := yk (show nv M = nv b by rw [hM, nv_limbs])
 have NL := yk hn1.symm
 have NM := yk hn2.symm
 have QA := yk (fun m hB => norm_read a A na c n1 L hna hL hn1 w m ha hc wa (by omega) hB)
 have QB := yk (fun m hB => norm_read b B nb d n2 M hnb hM hn2 w m hb hd wb (by omega) hB)
 obtain ⟨N, hN⟩ : ∃ N, N = n1 + n2 + 1 := ⟨_, rfl⟩
 have hN1 : (n1 : Int) + n2 + 1 = (N : Int) := by omega
 have hN2 : N ≤ 2147483649 := by omega
 have hN3 : n1 + n2 < N := by omega
 have HN := yk hN
 clear ha hb wa wb hna hnb hL hM hn1 hn2 hc hd la lb hN
 go_enter Tryz.func107, Tryz.ntmps107
 go_wp2_with (first
  | (go_at_call 89; first
    | (with_reducible refine (QA.out _ ?hB).mono ?_; (case hB => first | exact Below.refl _ _ | exact pw_below_drewN yr _); rintro e w_1 ⟨A1, c1, rfl, hc1, hC1, hB1, _⟩; have C1 := yk hC1; have B1 := yk hB1; clear hC1 hB1)
    | (with_reducible refine (QB.out _ ?hB).mono ?_; (case hB => first | exact B1.out | exact pw_below_drewN B1.out _); rintro e w_2 ⟨A2, c2, rfl, hc2, hC2, hB2, hB2'⟩; have C2 := yk hC2; have B2 := yk hB2; have C1' := yk (Kd.C_below C1.out (by first | exact hB2' | exact below_of_drewN hB2')); clear hC2 hB2 hB2'))
  | ((with_reducible refine gate_dst (N := 25) rfl ?_); go_must (refine Kd.R_make kU (w0 := w_2) w_2.heap.size 64 rfl rfl 23 (.tmp 24) (.tmp 24) rfl (N : Int) ?mx ?my Tryz.underlying23 (.int .u64 0) 8 info_word rfl (by decide) (by decide) 0 (ok := fun _ => True) (okp := fun _ => False) ?mz (fun _ h => h.elim) trivial (by omega) ?ml yr (Nat.le_refl _) ?_; (case mx => rfl); (case my => rfl); (case mz => rfl); (case ml => omega); intro v_3 w_3 ho hb hg hown; obtain ⟨g, cap, rfl, hg1, hg2, _⟩ := Kd.R_form ho (by simp; omega); rw [show (List.replicate ((N : Int)).toNat (0 : Nat)).length = N by simp] at ho ⊢; have HO := yk ho; have B3 := yk hb; have HG := yk hg1; clear ho hb hg hown hg1 hg2)))
 go_loopw [28] (fun v28 wr => ∃ (k : Nat) (o : List Nat), v28 = .int .i64 k ∧ k ≤ n1 ∧ Aside0 (BL w_2 wr) ∧ Aside0 (kU.R 64 wr w_2.heap.size (fun _ => True) (.slice (some ⟨g, 0, none⟩) N cap) o) ∧ Aside0 (o.length = N ∧ Wf o ∧ nv o = nv (L.take k) * nv M)) (fun v28 _ => n1 - (intOf v28).toNat)
 case atStart => exact ⟨0, _, rfl, Nat.zero_le _, B3, HO, ⟨by simp, Wf.replicate _, by rw [nv_replicate]; simp [nv]⟩⟩
 case round =>
  obtain ⟨k, o, rfl, hk, HB, HO1, HG1⟩ := hrel
  by_cases hlt : k < n1
  · obtain ⟨ad, x, rfl, hx0, hcell⟩ := at_word (Kd.C_below C1'.out HB.out) NL.out k hlt
    have HX := yk (wd_of hx0)
    have hx64 : x < 18446744073709551616 := WL.out.get hx0
    clear hx0
    have hp0 : (k : Int) + n2 < N := by omega
    go_wp2
    go_loopw [8, 35] (fun v8 v35 wr => ∃ (j cy : Nat) (o : List Nat), v8 = .int .u64 cy ∧ v35 = .int .i64 j ∧ j ≤ n2 ∧ cy ≤ 18446744073709551615 ∧ Aside0 (BL w_2 wr) ∧ Aside0 (kU.R 64 wr w_2.heap.size (fun _ => True) (.slice (some ⟨g, 0, none⟩) N cap) o) ∧ Aside0 (o.length = N ∧ Wf o ∧ nv o + 2 ^ (64 * (k + j)) * cy = nv (L.take k) * nv M + 2 ^ (64 * k) * (x * nv (M.take j)) ∧ wd o (k + n2) = 0)) (fun _ v35 _ => n2 - (intOf v35).toNat)
    case atStart =>
     refine ⟨0, 0, o, rfl, rfl, Nat.zero_le _, by omega, HB, HO1, ⟨HG1.out.1, HG1.out.2.1, by rw [HG1.out.2.2]; simp [nv], ?_⟩⟩
     refine wd_small HG1.out.2.1 (k := k + n2) ?_ (Nat.le_refl _)
     rw [HG1.out.2.2, Nat.mul_add, Nat.pow_add]
     have h1 := nv_take_lt WL.out k
     have h2 := nv_lt WM.out
     rw [NM.out] at h2
     exact Nat.mul_lt_mul'' h1 h2
    case round =>
     clear HO1 HG1
     obtain ⟨j, cy, o, rfl, rfl, hj, hcy, HB', HO2, HG2⟩ := hrel
     by_cases hlt2 : j < n2
     · obtain ⟨bd, y, rfl, hy0, hcell2⟩ := at_word (Kd.C_below C2.out HB'.out) NM.out j hlt2
       have HY := yk (wd_of hy0)
       have hy64 : y < 18446744073709551616 := WM.out.get hy0
       clear hy0
       obtain ⟨p, hp⟩ : ∃ p, p = k + j := ⟨_, rfl⟩
       have hpN : p < N := by omega
       have hp1 : (k : Int) + j = (p : Int) := by omega
       have HP := yk hp
       obtain ⟨hw1, hw2, hput⟩ := put_word HO2.out hpN
       obtain ⟨w0, hw0⟩ : ∃ w0, w0 = wd o p := ⟨_, rfl⟩
       have hw64 : w0 < 18446744073709551616 := by rw [hw0]; exact wd_lt HG2.out.2.1 p
       rw [← hw0] at hw1
       obtain ⟨lo, hi, hlo, hlh⟩ : ∃ lo hi, lo < 18446744073709551616 ∧ lo + 18446744073709551616 * hi = x * y := ⟨x * y % 18446744073709551616, x * y / 18446744073709551616, Nat.mod_lt _ (by decide), Nat.mod_add_div _ _⟩
       have QT := yk (times_is x y lo hi hx64 hy64 hlo hlh)
       obtain ⟨s, c1', hs1, hs2, hs3, hs4⟩ : ∃ s c' : Nat, s < 18446744073709551616 ∧ c' ≤ 1 ∧ s + 18446744073709551616 * c' = w0 + lo ∧ IntKind.u64.wrap ((w0 : Int) + lo) = (s : Int) := ⟨(w0 + lo) % 18446744073709551616, (w0 + lo) / 18446744073709551616, by omega, by omega, by omega, by unfold IntKind.wrap; simp [IntKind.bits, IntKind.signed]⟩
       obtain ⟨t, c2', ht1, ht2, ht3, ht4⟩ : ∃ s' c' : Nat, s' < 18446744073709551616 ∧ c' ≤ 1 ∧ s' + 18446744073709551616 * c' = s + cy ∧ IntKind.u64.wrap ((s : Int) + cy) = (s' : Int) := ⟨(s + cy) % 18446744073709551616, (s + cy) / 18446744073709551616, by omega, by omega, by omega, by unfold IntKind.wrap; simp [IntKind.bits, IntKind.signed]⟩
       have hxy : x * y ≤ 18446744073709551615 * 18446744073709551615 := Nat.mul_le_mul (by omega) (by omega)
       have hhi : hi + c1' + c2' ≤ 18446744073709551615 := by omega
       have HT := yk (show t + 2 ^ 64 * (hi + c1' + c2') = w0 + x * y + cy by omega)
       have HW0 := yk hw0
       have hhi2 : hi ≤ 18446744073709551615 := by omega
       have hc1s : (c1' = 1 ∧ s < lo) ∨ (c1' = 0 ∧ lo ≤ s) := by omega
       have hc2s : (c2' = 1 ∧ t < cy) ∨ (c2' = 0 ∧ cy ≤ t) := by omega
       have HPUT := yk hput
       have hst := run_store_word (P := Tryz.prog) (u := (t : Int)) hw1 hw2
       clear hw0 hp hput hxy hs3 ht3 hlh
       rcases hc1s with ⟨rfl, hc1s⟩ | ⟨rfl, hc1s⟩ <;> rcases hc2s with ⟨rfl, hc2s⟩ | ⟨rfl, hc2s⟩
       all_goals
        go_wp2_with (go_at_call 136; with_reducible refine (QT.out _).mono ?_; rintro e w' ⟨rfl, n1, rfl⟩)
        go_roundw
        case rel =>
         refine ⟨j + 1, _, o.set p t, rfl, by go_num, by omega, by omega, ?hB, ?hO, ?hG⟩
         case hB => exact ⟨(pw_below_drewN HB'.out _).setCell HG.out _⟩
         case hO => exact ⟨(put_word (Kd.R_drewN HO2.out _) hpN).2.2 t⟩
         case hG =>
          have hl : p < o.length := by have := HG2.out.1; omega
          refine ⟨by simp [HG2.out.1], HG2.out.2.1.set ht1, ?_, ?_⟩
          · rw [nv_take_succ M, HY.out]
            refine mul_step HG2.out.2.2.1 ?_ HT.out
            rw [← HP.out, HW0.out]
            exact nv_set hl t
          · rw [wd_set_ne (by have := HP.out; omega)]
            exact HG2.out.2.2.2
        case measure => simp [intOf]; omega
     · obtain rfl : j = n2 := by omega
       obtain ⟨p, hp⟩ : ∃ p, p = k + j := ⟨_, rfl⟩
       have hpN : p < N := by omega
       have hp1 : (k : Int) + j = (p : Int) := by omega
       have HP := yk hp
       obtain ⟨hw1, hw2, hput⟩ := put_word HO2.out hpN
       have HPUT := yk hput
       have hst := run_store_word (P := Tryz.prog) (u := (cy : Int)) hw1 hw2
       clear hp hput
       go_wp2
       go_roundw
       case rel =>
        refine ⟨k + 1, o.set p cy, by go_num, by omega, ?hB, ?hO, ?hG⟩
        case hB => exact ⟨HB'.out.setCell HG.out _⟩
        case hO => exact ⟨HPUT.out cy⟩
        case hG =>
         have hl : p < o.length := by have := HG2.out.1; omega
         refine ⟨by simp [HG2.out.1], HG2.out.2.1.set (by omega), ?_⟩
         rw [nv_take_succ L, HX.out]
         have e1 := nv_set hl cy
         have e2 := HG2.out.2.2.2
         rw [← HP.out] at e2
         rw [e2, HP.out] at e1
         have e3 := HG2.out.2.2.1
         rw [nv_take_all (l := M) (by rw [NM.out]; omega)] at e3
         rw [HP.out]
         exact mul_row e3 rfl (by omega)
       case measure => simp [intOf]; omega
  · obtain rfl : k = n1 := by omega
    have HF := yk (show nv o = nv a * nv b by rw [HG1.out.2.2, nv_take_all (by rw [NL.out]; omega), VL.out, VM.out])
    have HR := yk (Kd.R_reads' HO1.out).2.2
    have QN := yk (norm_any o (some ⟨g, 0, none⟩) cap wr HR.out (by rw [HG1.out.1]; exact (Kd.R_reads' HO1.out).2.1) HG1.out.2.1 (by rw [HG1.out.1]; omega))
    rw [HG1.out.1] at QN
    go_wp2_with (go_at_call 89; go_must (refine QN.out.mono ?_; rintro e w1 ⟨v, rfl, ho, hb⟩; rw [HF.out] at ho; have HOO := yk ho; have HBB := yk hb; clear ho hb))
    go_ret
    have HB4 := below_then B2.out B2.out.size HB.out
    exact ⟨_, rfl, Kd.R_lower HOO.out HB4.size, below_then HB4 HB4.size HBB.out⟩
theorem RDy.p {w : World} {b : Nat} {v : Value} {z e : Int} (h : RDy w b v z e) : PDy w b v z e := by
 obtain ⟨A, n, c, rfl, h⟩ := h; exact ⟨A, n, c, rfl, PL.of_R h⟩
theorem len_d {w : World} {v : Value} {m : Nat} (h : CN w v m) (hm : bl m ≤ 4294967296) :
 Calls Tryz.prog 90 #[v] w fun e w' => e = .returned (.int .i64 (bl m : Int)) ∧ BL w w' := by
 obtain ⟨A, n, c, rfl, h1, rfl, h3⟩ := h
 have hl := len_le (K := 67108864) hm
 have := len_any (limbs m) A c w h1 h3 (wf_limbs _) (by omega)
 rw [nv_limbs] at this
 exact this
theorem of_d (x : Nat) (hx : x < 18446744073709551616) (w : World) :
 Calls Tryz.prog 47 #[.int .u64 (x : Int)] w fun e w' => ∃ v, e = .returned v ∧ PN w' w.heap.size v x ∧ BL w w' := by
 refine (of_any x hx w).mono ?_
 rintro e w' ⟨v, rfl, h, hb⟩
 exact ⟨v, rfl, PL.of_R h, hb⟩
theorem add_d {w : World} {u v : Value} {a b : Nat} (h : CN w u a) (h' : CN w v b) (ha : bl a ≤ 4294967296) (hb : bl b ≤ 4294967296) :
 Calls Tryz.prog 54 #[u, v] w fun e w' => ∃ v, e = .returned v ∧ PN w' w.heap.size v (a + b) ∧ BL w w' := by
 obtain ⟨A, n, c, rfl, h1, rfl, h3⟩ := h
 obtain ⟨B, n', c', rfl, k1, rfl, k3⟩ := h'
 have hl := len_le (K := 67108864) ha
 have hl' := len_le (K := 67108864) hb
 have := add_any (limbs a) (limbs b) A B _ _ c c' rfl rfl w h1 k1 h3 k3 (wf_limbs _) (wf_limbs _) (by omega) (by omega)
 rw [nv_limbs, nv_limbs] at this
 exact this.mono (by rintro e w' ⟨v, rfl, h, hb⟩; exact ⟨v, rfl, PL.of_R h, hb⟩)
theorem sub_d {w : World} {u v : Value} {a b : Nat} (h : CN w u a) (h' : CN w v b) (ha : bl a ≤ 4294967296) (hba : b ≤ a) :
 Calls Tryz.prog 56 #[u, v] w fun e w' => ∃ v, e = .returned v ∧ PN w' w.heap.size v (a - b) ∧ BL w w' := by
 obtain ⟨A, n, c, rfl, h1, rfl, h3⟩ := h
 obtain ⟨B, n', c', rfl, k1, rfl, k3⟩ := h'
 have hl := len_le (K := 67108864) ha
 have hl' := len_le (K := 67108864) (Nat.le_trans (bl_le_iff.2 (Nat.lt_of_le_of_lt hba (bl_lt a))) ha)
 have := sub_any (limbs a) (limbs b) A B _ _ c c' rfl rfl w h1 k1 h3 k3 (wf_limbs _) (wf_limbs _) (by omega) (by omega) (by rw [nv_limbs, nv_limbs]; exact hba)
 rw [nv_limbs, nv_limbs] at this
 exact this.mono (by rintro e w' ⟨v, rfl, h, hb⟩; exact ⟨v, rfl, PL.of_R h, hb⟩)
theorem mul_d {w : World} {u v : Value} {a b : Nat} (h : CN w u a) (h' : CN w v b) (ha : bl a ≤ 4294967296) (hb : bl b ≤ 4294967296) :
 Calls Tryz.prog 107 #[u, v] w fun e w' => ∃ v, e = .returned v ∧ PN w' w.heap.size v (a * b) ∧ BL w w' := by
 obtain ⟨A, n, c, rfl, h1, rfl, h3⟩ := h
 obtain ⟨B, n', c', rfl, k1, rfl, k3⟩ := h'
 have hl := len_le (K := 67108864) ha
 have hl' := len_le (K := 67108864) hb
 have := mul_any (limbs a) (limbs b) A B _ _ c c' rfl rfl w h1 k1 h3 k3 (wf_limbs _) (wf_limbs _) (by omega) (by omega)
 rw [nv_limbs, nv_limbs] at this
 exact this.mono (by rintro e w' ⟨v, rfl, h, hb⟩; exact ⟨v, rfl, PL.of_R h, hb⟩)
theorem cmp_d {w : World} {u v : Value} {a b : Nat} (h : CN w u a) (h' : CN w v b) (ha : bl a ≤ 4294967296) (hb : bl b ≤ 4294967296) :
 Calls Tryz.prog 55 #[u, v] w fun e w' => e = .returned (.int .i64 (cmpN a b)) ∧ BL w w' := by
 obtain ⟨A, n, c, rfl, h1, rfl, h3⟩ := h
 obtain ⟨B, n', c', rfl, k1, rfl, k3⟩ := h'
 have hl := len_le (K := 67108864) ha
 have hl' := len_le (K := 67108864) hb
 refine (cmp_any (limbs a) (limbs b) A B c c' w h1 k1 h3 k3 (wf_limbs _) (wf_limbs _) (by omega) (by omega)).mono ?_
 rintro e w' ⟨rfl, n, rfl⟩
 rw [nv_limbs, nv_limbs]
 exact ⟨rfl, pw_below_drewN yr _⟩
theorem shl_d {w : World} {v : Value} {m : Nat} (n : Int) (k : Nat) (hk : n = k) (h : CN w v m) (hm : bl m ≤ 4294967296) (hn : k ≤ 4294967296) :
 Calls Tryz.prog 53 #[v, .int .i64 n] w fun e w' => ∃ v, e = .returned v ∧ PN w' w.heap.size v (m * 2 ^ k) ∧ BL w w' := by
 subst hk
 obtain ⟨A, n, c, rfl, h1, rfl, h3⟩ := h
 have hl := len_le (K := 67108864) hm
 have := shl_any (limbs m) A _ c k rfl w h1 h3 (wf_limbs _) (by omega) (by omega)
 rw [nv_limbs] at this
 exact this.mono (by rintro e w' ⟨v, rfl, h, hb⟩; exact ⟨v, rfl, PL.of_R h, hb⟩)
theorem shr_d {w : World} {v : Value} {m : Nat} (n : Int) (k : Nat) (hk : n = k) (h : CN w v m) (hm : bl m ≤ 4294967296) (hn : k ≤ 4294967296) :
 Calls Tryz.prog 92 #[v, .int .i64 n] w fun e w' => ∃ v, e = .returned (.tuple #[v, .bool (m % 2 ^ k != 0)]) ∧ PN w' w.heap.size v (m / 2 ^ k) ∧ BL w w' := by
 subst hk
 obtain ⟨A, n, c, rfl, h1, rfl, h3⟩ := h
 have hl := len_le (K := 67108864) hm
 have := shr_any (limbs m) A _ c k rfl w h1 h3 (wf_limbs _) (by omega) (by omega)
 rw [nv_limbs] at this
 exact this.mono (by rintro e w' ⟨v, rfl, h, hb⟩; exact ⟨v, rfl, PL.of_R h, hb⟩)
theorem form_d {w : World} {v : Value} {m : Nat} (neg : Bool) (x : Int) (h : CN w v m) (hm : bl m ≤ 4294967296) (h1 : -1099511627776 ≤ x) (h2 : x ≤ 1099511627776) :
 Calls Tryz.prog 46 #[.bool neg, v, .int .i64 x] w fun e w' => ∃ v, e = .returned v ∧ PDy w' w.heap.size v (sgn neg m) x ∧ BL w w' := by
 obtain ⟨A, n, c, rfl, g1, rfl, g3⟩ := h
 have hl := len_le (K := 67108864) hm
 have := form_any neg (limbs m) A _ c x rfl w g1 g3 (wf_limbs _) (by omega) h1 h2
 rw [nv_limbs] at this
 exact this.mono (by rintro e w' ⟨v, rfl, h, hb⟩; exact ⟨v, rfl, h.p, hb⟩)
theorem done_dy {v : Value} {z e : Int} {N : Nat} {w : World} (h : CDy w v z e) (h3 : Bd N z e) (hN : N ≤ 67108864) :
 Calls Tryz.prog 44 #[v] w fun en w' => ∃ v', en = .returned v' ∧ PDy w' w.heap.size v' z e ∧ BL w w' := by
 have l := (bd_len h3); have lo := (bd_lo h3); have hi := (bd_hi h3)
 have hs : Dv z e = Dv (sgn (cneg z) (cman z)) (cexp z e) := Dv_form z e
 obtain ⟨A, n, c, rfl, g1, rfl, g3⟩ := h
 have := one_any (cneg z) (limbs (cman z)) A _ c (cexp z e) rfl w g1 g3 (wf_limbs _) (by omega) (by omega) (by omega)
 rw [nv_limbs] at this
 exact this.mono (by rintro e w' ⟨v, rfl, h, hb⟩; exact ⟨v, rfl, h.p.as_ hs.symm, hb⟩)
theorem wa_unit {x y : Int} {K : Nat} (hx : -(K : Int) ≤ x) (hx2 : x ≤ (K : Int)) (hy : -(K : Int) ≤ y) (hy2 : y ≤ (K : Int)) (hK : K ≤ 4294967296) : ∃ E : Int, ∃ i j : Nat, (if y < x then y else x) = E ∧ IntKind.i64.wrap (x - E) = (i : Int) ∧ IntKind.i64.wrap (y - E) = (j : Int) ∧ x = E + i ∧ y = E + j ∧ -(K : Int) ≤ E ∧ E ≤ (K : Int) ∧ i ≤ 2 * K ∧ j ≤ 2 * K := by
 by_cases h : y < x
 · refine ⟨y, (x - y).toNat, 0, if_pos h, ?_, ?_, by omega, by omega, by omega, by omega, by omega, by omega⟩
   · rw [i64_id (by omega) (by omega)]; omega
   · rw [i64_id (by omega) (by omega)]; omega
 · refine ⟨x, 0, (y - x).toNat, if_neg h, ?_, ?_, by omega, by omega, by omega, by omega, by omega, by omega⟩
   · rw [i64_id (by omega) (by omega)]; omega
   · rw [i64_id (by omega) (by omega)]; omega
theorem wa_at {y x E : Int} {i : Nat} (e : cexp y x = E + i) : Dv y x = Dv (sgn (cneg y) (cman y * 2 ^ i)) E := by
 rw [Dv_form y x, e, ← Dv_shift, ← sgn_pow]
theorem wa_pq {w : World} {b N M : Nat} {v : Value} {y z x x' Z E : Int} (h : PDy w b v Z E) (e : Dv Z E = Dv y x + Dv z x') (b1 : Bd N y x) (b2 : Bd M z x') : PQ w b v (Dv y x + Dv z x') (2 * (N + M) + 1) := by
 obtain ⟨g, i, j, e1, e2, e3⟩ := Dv_common x x'
 have c1 : Dv y x = Dv (y * 2 ^ i) g := by rw [Dv_shift, ← e1]
 have c2 : Dv z x' = Dv (z * 2 ^ j) g := by rw [Dv_shift, ← e2]
 have d1 := b1.2; have d2 := b2.2
 refine ⟨y * 2 ^ i + z * 2 ^ j, g, h.as_ (by rw [e, c1, c2, Dv_add]), by rw [c1, c2, Dv_add], ?_⟩
 have a1 := (b1.shift e1 (M := N + 2 * M) (by omega) (by omega)).more (M := 2 * (N + M)) (by omega)
 have a2 := (b2.shift e2 (M := 2 * N + M) (by omega) (by omega)).more (M := 2 * (N + M)) (by omega)
 exact a1.add a2
theorem cmpN_ge {a b : Nat} (h : 0 ≤ cmpN a b) : b ≤ a := by
 unfold cmpN at h
 by_cases q : a < b
 · rw [if_pos q] at h; omega
 · omega
theorem cmpN_lt {a b : Nat} (h : cmpN a b < 0) : a ≤ b := by
 unfold cmpN at h
 by_cases q : a < b
 · omega
 · rw [if_neg q] at h; split at h <;> omega
theorem wa_zero {y : Int} (h : cman y = 0) : y = 0 := by
 refine (Dv_eq_zero (e := 0)).1 ?_
 rw [Dv_form, h, sgn_zero, Dv_zero]
def Fwa27_0 := [dg 0, dg 3, U, U, U, U, U, U, U, U, U, U, U, U, U, U, U, U, U, U, U, U, U, U, U, U, U, U, U, U, U, U, U, U, U, U, U, U, U, U, U, U, U, U, U, U, U, U, U, U, U, U, U, U, U, U, U, U, U, U, U, U, U, U, U, U, U, U, U, U, U, U, U, U, U]
def Fwa27_1 := fs Fwa27_0 [(2, ps 0 0), (3, ps 1 0), (4, ps 2 0)]
def Bwa27_2 := [bb 25 (d3 0), bb 25 (d3 3), bb 25 o3]
def Rwa27_3 : Rg := ⟨3, 6, 0, Fwa27_0, Bwa27_2, [pa 0 0, pa 1 0, pa 2 0], []⟩
def Fwa27_4 := fs Fwa27_1 [(5, ps 3 0), (6, ps 4 0), (10, dg 0), (11, dg 6), (12, dg 3), (13, dg 9)]
def Bwa27_5 := [bb 25 (d3 0), bb 25 (d3 3), bb 25 o3, bb 25 o3, bb 25 o3]
def Rwa27_6 : Rg := ⟨6, 6, 3, Fwa27_1, Bwa27_5, [pl (dg 0) 0 0 0, pc (dg 6) 0 44 [dg 0] 3, pl (dg 3) 0 1 0, pc (dg 9) 1 44 [dg 3] 3, pa 3 0, pa 4 0], [1, 3]⟩
def Bwa27_7 := [bb 25 (d3 0), bb 25 (d3 3), bb 25 o3, bb 25 (d3 6), bb 25 (d3 9)]
def Fwa27_8 := fs Fwa27_4 [(14, ps 3 1), (15, vs 7), (16, f1 lnF (vs 7)), (17, bo .eql (f1 lnF (vs 7)) (li 0))]
def Rwa27_9 : Rg := ⟨4, 12, 5, Fwa27_4, Bwa27_7, [pv (ps 3 1) 0, pl (vs 7) 0 3 1, pv (f1 lnF (vs 7)) 0, pv (bo .eql (f1 lnF (vs 7)) (li 0)) 0], []⟩
def Fwa27_10 := fs Fwa27_8 [(18, dg 9)]
def Rwa27_11 : Rg := ⟨1, 12, 5, Fwa27_8, Bwa27_7, [pl (dg 9) 0 4 0], []⟩
def Bwa27_12 := [bb 25 (d3 0), bb 25 (d3 3), bb 25 (d3 9), bb 25 (d3 6), bb 25 (d3 9)]
def Fwa27_13 := fs Fwa27_8 [(19, ps 4 1), (20, vs 10), (21, f1 lnF (vs 10)), (22, bo .eql (f1 lnF (vs 10)) (li 0))]
def Rwa27_14 : Rg := ⟨4, 12, 5, Fwa27_8, Bwa27_7, [pv (ps 4 1) 0, pl (vs 10) 0 4 1, pv (f1 lnF (vs 10)) 0, pv (bo .eql (f1 lnF (vs 10)) (li 0)) 0], []⟩
def Fwa27_15 := fs Fwa27_13 [(23, dg 6)]
def Rwa27_16 : Rg := ⟨1, 12, 5, Fwa27_13, Bwa27_7, [pl (dg 6) 0 3 0], []⟩
def Bwa27_17 := [bb 25 (d3 0), bb 25 (d3 3), bb 25 (d3 6), bb 25 (d3 6), bb 25 (d3 9)]
def Fwa27_18 := fs Fwa27_13 [(7, f2 mnF (vi 8) (vi 11)), (24, ps 3 2), (25, vi 8), (26, ps 4 2), (27, vi 11), (28, f2 mnF (vi 8) (vi 11))]
def Rwa27_19 : Rg := ⟨6, 12, 5, Fwa27_13, Bwa27_7, [pv (ps 3 2) 0, pl (vi 8) 0 3 2, pv (ps 4 2) 0, pl (vi 11) 0 4 2, pv (f2 mnF (vi 8) (vi 11)) 0, pv (f2 mnF (vi 8) (vi 11)) 0], []⟩
def Fwa27_20 := fs Fwa27_18 [(8, vs 12), (29, ps 3 1), (30, vs 7), (31, ps 3 2), (32, vi 8), (33, f2 mnF (vi 8) (vi 11)), (34, bo .sub (vi 8) (f2 mnF (vi 8) (vi 11))), (35, vs 12)]
def Rwa27_21 : Rg := ⟨8, 12, 5, Fwa27_18, Bwa27_7, [pv (ps 3 1) 0, pl (vs 7) 0 3 1, pv (ps 3 2) 0, pl (vi 8) 0 3 2, pv (f2 mnF (vi 8) (vi 11)) 0, pv (bo .sub (vi 8) (f2 mnF (vi 8) (vi 11))) 0, pc (vs 12) 0 53 [vs 7, bo .sub (vi 8) (f2 mnF (vi 8) (vi 11))] 1, pv (vs 12) 1], [6]⟩
def Fwa27_22 := fs Fwa27_20 [(9, vs 13), (36, ps 4 1), (37, vs 10), (38, ps 4 2), (39, vi 11), (40, f2 mnF (vi 8) (vi 11)), (41, bo .sub (vi 11) (f2 mnF (vi 8) (vi 11))), (42, vs 13)]
def Rwa27_23 : Rg := ⟨8, 13, 5, Fwa27_20, Bwa27_7, [pv (ps 4 1) 0, pl (vs 10) 0 4 1, pv (ps 4 2) 0, pl (vi 11) 0 4 2, pv (f2 mnF (vi 8) (vi 11)) 0, pv (bo .sub (vi 11) (f2 mnF (vi 8) (vi 11))) 0, pc (vs 13) 0 53 [vs 10, bo .sub (vi 11) (f2 mnF (vi 8) (vi 11))] 1, pv (vs 13) 1], [6]⟩
def Fwa27_24 := fs Fwa27_22 [(43, bo .eql (vb 6) (vb 9)), (44, ps 3 0), (45, vb 6), (46, ps 4 0), (47, vb 9), (48, bo .eql (vb 6) (vb 9))]
def Rwa27_25 : Rg := ⟨6, 14, 5, Fwa27_22, Bwa27_7, [pv (ps 3 0) 0, pl (vb 6) 0 3 0, pv (ps 4 0) 0, pl (vb 9) 0 4 0, pv (bo .eql (vb 6) (vb 9)) 0, pv (bo .eql (vb 6) (vb 9)) 0], []⟩
def Fwa27_26 := fs Fwa27_24 [(49, ps 3 0), (50, vb 6), (51, vs 12), (52, vs 13), (53, vs 14), (54, f2 mnF (vi 8) (vi 11)), (55, dg 15)]
def Rwa27_27 : Rg := ⟨7, 14, 5, Fwa27_24, Bwa27_7, [pv (ps 3 0) 0, pl (vb 6) 0 3 0, pv (vs 12) 0, pv (vs 13) 0, pc (vs 14) 0 54 [vs 12, vs 13] 1, pv (f2 mnF (vi 8) (vi 11)) 0, pc (dg 15) 1 46 [vb 6, vs 14, f2 mnF (vi 8) (vi 11)] 3], [4, 6]⟩
def Bwa27_28 := [bb 25 (d3 0), bb 25 (d3 3), bb 25 (d3 15), bb 25 (d3 6), bb 25 (d3 9)]
def Fwa27_29 := fs Fwa27_24 [(56, bo .geq (vi 14) (li 0)), (57, vs 12), (58, vs 13), (59, vi 14), (60, bo .geq (vi 14) (li 0))]
def Rwa27_30 : Rg := ⟨5, 14, 5, Fwa27_24, Bwa27_7, [pv (vs 12) 0, pv (vs 13) 0, pc (vi 14) 0 55 [vs 12, vs 13] 1, pv (bo .geq (vi 14) (li 0)) 1, pv (bo .geq (vi 14) (li 0)) 1], [2]⟩
def Fwa27_31 := fs Fwa27_29 [(61, ps 3 0), (62, vb 6), (63, vs 12), (64, vs 13), (65, vs 15), (66, f2 mnF (vi 8) (vi 11)), (67, dg 16)]
def Rwa27_32 : Rg := ⟨7, 15, 5, Fwa27_29, Bwa27_7, [pv (ps 3 0) 0, pl (vb 6) 0 3 0, pv (vs 12) 0, pv (vs 13) 0, pc (vs 15) 0 56 [vs 12, vs 13] 1, pv (f2 mnF (vi 8) (vi 11)) 0, pc (dg 16) 1 46 [vb 6, vs 15, f2 mnF (vi 8) (vi 11)] 3], [4, 6]⟩
def Bwa27_33 := [bb 25 (d3 0), bb 25 (d3 3), bb 25 (d3 16), bb 25 (d3 6), bb 25 (d3 9)]
def Fwa27_34 := fs Fwa27_29 [(68, ps 4 0), (69, vb 9), (70, vs 13), (71, vs 12), (72, vs 15), (73, f2 mnF (vi 8) (vi 11)), (74, dg 16)]
def Rwa27_35 : Rg := ⟨7, 15, 5, Fwa27_29, Bwa27_7, [pv (ps 4 0) 0, pl (vb 9) 0 4 0, pv (vs 13) 0, pv (vs 12) 0, pc (vs 15) 0 56 [vs 13, vs 12] 1, pv (f2 mnF (vi 8) (vi 11)) 0, pc (dg 16) 1 46 [vb 9, vs 15, f2 mnF (vi 8) (vi 11)] 3], [4, 6]⟩
theorem dplus_of {s s' : Bool} {A0 A9 : Option Addr} {n0 n9 c0 c9 N M : Nat} {xx yy y z x x' : Int} {w : World} (B1 : Bd N y x) (B2 : Bd M z x') (hN : N + M ≤ 67108864)
 (Q1 : ∀ W, BL w W → Calls Tryz.prog 44 #[.agg #[.bool s, .slice A0 n0 c0, .int .i64 xx]] W fun en w' => ∃ v', en = .returned v' ∧ PDy w' W.heap.size v' y x ∧ BL W w')
 (Q2 : ∀ W, BL w W → Calls Tryz.prog 44 #[.agg #[.bool s', .slice A9 n9 c9, .int .i64 yy]] W fun en w' => ∃ v', en = .returned v' ∧ PDy w' W.heap.size v' z x' ∧ BL W w') :
 Calls Tryz.prog 27 #[.agg #[.bool s, .slice A0 n0 c0, .int .i64 xx], .agg #[.bool s', .slice A9 n9 c9, .int .i64 yy]] w fun en w' => ∃ v', en = .returned v' ∧ PQ w' w.heap.size v' (Dv y x + Dv z x') (2 * (N + M) + 1) ∧ BL w w' := by
 have l1 := bd_lo B1; have l2 := bd_hi B1; have l3 := bd_lo B2; have l4 := bd_hi B2
 have K1 : bl (cman y) ≤ N := bl_le_iff.2 (bd_man B1)
 have K2 : bl (cman z) ≤ M := bl_le_iff.2 (bd_man B2)
 refine fn_enter (u := 64) (fn := Tryz.f27) Tryz.func27 rfl Fwa27_0 [.bool s, .slice A0 n0 c0, .int .i64 xx, .bool s', .slice A9 n9 c9, .int .i64 yy] (by kernel_rfl) rfl (fun a0 S0 r0 => ?_)
 refine wp_seq (rk Rwa27_3 [] Fwa27_1 Bwa27_2 S0 r0 ?_)
 intro _ _ _ r1 S1
 refine wp_seq (rk Rwa27_6 [.st 3 0 (d3 6), .st 4 0 (d3 9)] Fwa27_4 Bwa27_7 S1 r1 ?_)
 intro _ _ r2 _
 refine (Q1 _ r2.first).mono ?_
 rintro _ V1 ⟨v, rfl, h1, k1⟩
 obtain ⟨b1, A1, n1, c1, x1, rfl⟩ := h1.ex
 replace h1 := h1.lower r2.fs
 refine ⟨[.bool b1, .slice A1 n1 c1, .int .i64 x1], rfl, rfl, rfl, k1, ?_⟩
 obtain ⟨hb1, hx1, p1⟩ := h1.cells
 intro _ _ r3 _
 refine (Q2 _ r3.first).mono ?_
 rintro _ V2 ⟨v, rfl, h2, k2⟩
 obtain ⟨b2, A2, n2, c2, x2, rfl⟩ := h2.ex
 replace h2 := h2.lower r3.fs
 refine ⟨[.bool b2, .slice A2 n2 c2, .int .i64 x2], rfl, rfl, rfl, k2, ?_⟩
 obtain ⟨hb2, hz2, p2⟩ := h2.cells
 obtain ⟨E0, i, j, eE, hi, hj, e1, e2, m1, m2, m3, m4⟩ := wa_unit (x := x1) (y := x2) (K := 2 * (N + M)) (by omega) (by omega) (by omega) (by omega) (by omega)
 have hb3 : bl (cman y * 2 ^ i) ≤ 805306368 := by have := bl_mul (b := 2 ^ i) K1 (bl_pow_le i); omega
 have hb4 : bl (cman z * 2 ^ j) ≤ 805306368 := by have := bl_mul (b := 2 ^ j) K2 (bl_pow_le j); omega
 have hb5 : bl (cman y * 2 ^ i + cman z * 2 ^ j) ≤ 805306369 := bl_add hb3 hb4
 have q9 := wa_at (y := y) (x := x) (hx1.symm.trans e1)
 have q8 := wa_at (y := z) (x := x') (hz2.symm.trans e2)
 rw [← hb1] at q9
 rw [← hb2] at q8
 intro _ _ _ r4 S4
 refine wp_seq ?_
 refine wp_seq (rk Rwa27_9 [] Fwa27_8 Bwa27_7 S4 r4 ?_)
 intro _ _ _ r5 S5
 refine wp_cond_split (t := ((n1 : Nat) : Int) == 0) (S5.cnd (by kernel_rfl)) (fun q1 => ?_) (fun q1 => ?_)
 · refine wp_seq (rk Rwa27_11 [.st 2 0 (d3 9)] Fwa27_10 Bwa27_12 S5 r5 ?_)
   intro a6 g6 W6 r6 S6
   exact wp_ret (then_ret (ret_ok S6 [.agg #[.bool b2, .slice A2 n2 c2, .int .i64 x2]] (by kernel_rfl) (⟨_, rfl, wa_pq (h2.lat (r6.at_ 1 _ rfl)) (by rw [wa_zero (y := y) (limbs_zero_len.1 (p1.len.symm.trans (by simpa using q1))), Dv_zero, Rat.zero_add]) B1 B2, r6.first⟩)))
 · refine wp_skip ?_
   refine wp_seq ?_
   refine wp_seq (rk Rwa27_14 [] Fwa27_13 Bwa27_7 S5 r5 ?_)
   intro a6 g6 W6 r6 S6
   refine wp_cond_split (t := ((n2 : Nat) : Int) == 0) (S6.cnd (by kernel_rfl)) (fun q2 => ?_) (fun q2 => ?_)
   · refine wp_seq (rk Rwa27_16 [.st 2 0 (d3 6)] Fwa27_15 Bwa27_17 S6 r6 ?_)
     intro a7 g7 W7 r7 S7
     exact wp_ret (then_ret (ret_ok S7 [.agg #[.bool b1, .slice A1 n1 c1, .int .i64 x1]] (by kernel_rfl) (⟨_, rfl, wa_pq (h1.lat (r7.at_ 0 _ rfl)) (by rw [wa_zero (y := z) (limbs_zero_len.1 (p2.len.symm.trans (by simpa using q2))), Dv_zero, Rat.add_zero]) B1 B2, r7.first⟩)))
   · refine wp_skip ?_
     refine wp_seq (rk Rwa27_19 [] Fwa27_18 Bwa27_7 S6 r6 ?_)
     intro a7 g7 W7 r7 S7
     refine wp_seq (rk Rwa27_21 [] Fwa27_20 Bwa27_7 S7 r7 ?_)
     intro W8 _ r8 _
     show Calls Tryz.prog 53 #[.slice A1 n1 c1, .int .i64 (IntKind.i64.wrap (x1 - (if x2 < x1 then x2 else x1)))] W8 _
     refine (shl_d _ i (by rw [eE]; exact hi) (p1.lat (r8.at_ 0 _ rfl)).c (by omega) (by omega)).mono ?_
     rintro _ V3 ⟨v, rfl, h3, k3⟩
     obtain ⟨A3, n3, c3, rfl⟩ := h3.ex
     replace h3 := h3.lower r8.fs
     refine ⟨[.slice A3 n3 c3], rfl, rfl, rfl, k3, ?_⟩
     intro _ _ _ r9 S9
     refine wp_seq (rk Rwa27_23 [] Fwa27_22 Bwa27_7 S9 r9 ?_)
     intro W10 _ r10 _
     show Calls Tryz.prog 53 #[.slice A2 n2 c2, .int .i64 (IntKind.i64.wrap (x2 - (if x2 < x1 then x2 else x1)))] W10 _
     refine (shl_d _ j (by rw [eE]; exact hj) (p2.lat (r10.at_ 1 _ rfl)).c (by omega) (by omega)).mono ?_
     rintro _ V4 ⟨v, rfl, h4, k4⟩
     obtain ⟨A4, n4, c4, rfl⟩ := h4.ex
     replace h4 := h4.lower r10.fs
     refine ⟨[.slice A4 n4 c4], rfl, rfl, rfl, k4, ?_⟩
     intro _ _ _ r11 S11
     refine wp_seq ?_
     refine wp_block ?_
     refine wp_seq (rk Rwa27_25 [] Fwa27_24 Bwa27_7 S11 r11 ?_)
     intro _ _ _ r12 S12
     refine wp_cond_split (t := b1 == b2) (S12.cnd (by kernel_rfl)) (fun q3 => ?_) (fun q3 => ?_)
     · refine wp_seq (rk Rwa27_27 [.st 2 0 (d3 15)] Fwa27_26 Bwa27_28 S12 r12 ?_)
       intro W13 g13 r13 _
       refine (add_d (h3.lat (r13.at_ 2 _ rfl)).c (h4.lat (r13.at_ 3 _ rfl)).c (by omega) (by omega)).mono ?_
       rintro _ V5 ⟨v, rfl, h5, k5⟩
       obtain ⟨A5, n5, c5, rfl⟩ := h5.ex
       replace h5 := h5.lower r13.fs
       refine ⟨[.slice A5 n5 c5], rfl, rfl, rfl, k5, ?_⟩
       intro W14 g14 r14 _
       show Calls Tryz.prog 46 #[.bool b1, .slice A5 n5 c5, .int .i64 (if x2 < x1 then x2 else x1)] W14 _
       refine (form_d _ _ (h5.lat (r14.at_ 4 _ rfl)).c (by omega) (by rw [eE]; omega) (by rw [eE]; omega)).mono ?_
       rintro _ V6 ⟨v, rfl, h6, k6⟩
       obtain ⟨b6, A6, n6, c6, x6, rfl⟩ := h6.ex
       replace h6 := h6.lower r14.fs
       refine ⟨[.bool b6, .slice A6 n6 c6, .int .i64 x6], rfl, rfl, rfl, k6, ?_⟩
       rw [eE] at h6
       intro _ g15 W15 r15 S15
       exact wp_ret (blk_ret (then_ret (ret_ok S15 [.agg #[.bool b6, .slice A6 n6 c6, .int .i64 x6]] (by kernel_rfl) (⟨_, rfl, wa_pq (h6.lat (r15.at_ 5 _ rfl)) (by rw [q9, q8, Dv_add, ← (show b1 = b2 by simpa using q3), sgn_add]) B1 B2, r15.first⟩))))
     · refine wp_seq (rk Rwa27_30 [] Fwa27_29 Bwa27_7 S12 r12 ?_)
       intro W13 g13 r13 _
       refine (cmp_d (h3.lat (r13.at_ 2 _ rfl)).c (h4.lat (r13.at_ 3 _ rfl)).c (by omega) (by omega)).mono ?_
       rintro _ V7 ⟨rfl, k7⟩
       refine ⟨[.int .i64 (cmpN (cman y * 2 ^ i) (cman z * 2 ^ j))], rfl, rfl, rfl, k7, ?_⟩
       intro _ g14 W14 r14 S14
       refine wp_cond_split (t := decide ((cmpN (cman y * 2 ^ i) (cman z * 2 ^ j)) ≥ 0)) (S14.cnd (by kernel_rfl)) (fun q4 => ?_) (fun q4 => ?_)
       · have hle : cman z * 2 ^ j ≤ cman y * 2 ^ i := cmpN_ge (by simpa using q4)
         refine wp_seq (rk Rwa27_32 [.st 2 0 (d3 16)] Fwa27_31 Bwa27_33 S14 r14 ?_)
         intro W15 g15 r15 _
         refine (sub_d (h3.lat (r15.at_ 2 _ rfl)).c (h4.lat (r15.at_ 3 _ rfl)).c (by omega) hle).mono ?_
         rintro _ V8 ⟨v, rfl, h5, k8⟩
         obtain ⟨A8, n8, c8, rfl⟩ := h5.ex
         replace h5 := h5.lower r15.fs
         refine ⟨[.slice A8 n8 c8], rfl, rfl, rfl, k8, ?_⟩
         intro W16 g16 r16 _
         show Calls Tryz.prog 46 #[.bool b1, .slice A8 n8 c8, .int .i64 (if x2 < x1 then x2 else x1)] W16 _
         refine (form_d _ _ (h5.lat (r16.at_ 5 _ rfl)).c (by have := bl_le_of (Nat.sub_le (cman y * 2 ^ i) (cman z * 2 ^ j)); omega) (by rw [eE]; omega) (by rw [eE]; omega)).mono ?_
         rintro _ V9 ⟨v, rfl, h6, k9⟩
         obtain ⟨b9, A9, n9, c9, x9, rfl⟩ := h6.ex
         replace h6 := h6.lower r16.fs
         refine ⟨[.bool b9, .slice A9 n9 c9, .int .i64 x9], rfl, rfl, rfl, k9, ?_⟩
         rw [eE] at h6
         intro a17 g17 W17 r17 S17
         exact wp_ret (blk_ret (then_ret (ret_ok S17 [.agg #[.bool b9, .slice A9 n9 c9, .int .i64 x9]] (by kernel_rfl) (⟨_, rfl, wa_pq (h6.lat (r17.at_ 6 _ rfl)) (by rw [q9, q8, Dv_add, Limb.sgn_sub (show b1 ≠ b2 by simpa using q3) hle]) B1 B2, r17.first⟩))))
       · have hle : cman y * 2 ^ i ≤ cman z * 2 ^ j := cmpN_lt (by simpa using q4)
         refine wp_skip ?_
         refine wp_seq (rk Rwa27_35 [.st 2 0 (d3 16)] Fwa27_34 Bwa27_33 S14 r14 ?_)
         intro W15 g15 r15 _
         refine (sub_d (h4.lat (r15.at_ 3 _ rfl)).c (h3.lat (r15.at_ 2 _ rfl)).c (by omega) hle).mono ?_
         rintro _ V10 ⟨v, rfl, h5, k10⟩
         obtain ⟨A10, n10, c10, rfl⟩ := h5.ex
         replace h5 := h5.lower r15.fs
         refine ⟨[.slice A10 n10 c10], rfl, rfl, rfl, k10, ?_⟩
         intro W16 g16 r16 _
         show Calls Tryz.prog 46 #[.bool b2, .slice A10 n10 c10, .int .i64 (if x2 < x1 then x2 else x1)] W16 _
         refine (form_d _ _ (h5.lat (r16.at_ 5 _ rfl)).c (by have := bl_le_of (Nat.sub_le (cman z * 2 ^ j) (cman y * 2 ^ i)); omega) (by rw [eE]; omega) (by rw [eE]; omega)).mono ?_
         rintro _ V11 ⟨v, rfl, h6, k11⟩
         obtain ⟨b11, A11, n11, c11, x11, rfl⟩ := h6.ex
         replace h6 := h6.lower r16.fs
         refine ⟨[.bool b11, .slice A11 n11 c11, .int .i64 x11], rfl, rfl, rfl, k11, ?_⟩
         rw [eE] at h6
         intro a17 g17 W17 r17 S17
         exact rt S17 [.agg #[.bool b11, .slice A11 n11 c11, .int .i64 x11]] (⟨_, rfl, wa_pq (h6.lat (r17.at_ 6 _ rfl)) (by rw [q9, q8, Dv_add, Limb.sgn_sub (show b2 ≠ b1 from fun e => absurd e.symm (by simpa using q3)) hle, Int.add_comm]) B1 B2, r17.first⟩)
theorem dsign_q {v : Value} {a : Rat} {N : Nat} {w : World} (h : CQ w v a N) (hN : N ≤ 67108864) :
 Calls Tryz.prog 25 #[v] w fun en w' => en = .returned (.int .i64 (sgnQ a)) ∧ BL w w' := by
 obtain ⟨z, e, h1, rfl, h3⟩ := h
 have l := (bd_len h3)
 rw [sgn_Dv]
 exact sign_any' v z e w h1 (by omega)
theorem dtop_q {v : Value} {q : Rat} {N : Nat} {w : World} (h : CQ w v q N) (hN : N ≤ 67108864) :
 Calls Tryz.prog 43 #[v] w fun en w' => ∃ T : Int, en = .returned (.int .i64 T) ∧ (q ≠ 0 → (2 : Rat) ^ T ≤ ab q ∧ ab q < (2 : Rat) ^ (T + 1)) ∧ -67108865 ≤ T ∧ T ≤ 268435456 ∧ BL w w' := by
 obtain ⟨z, e, h, rfl, hB⟩ := h
 have l := bd_len hB; have lo := bd_lo hB; have hi := bd_hi hB
 have hbl : bl (cman z) ≤ N := bl_le_iff.2 (bd_man hB)
 refine (top_any v z e w h (by omega) (by omega) (by omega)).mono ?_
 rintro en w' ⟨rfl, hb⟩
 refine ⟨_, rfl, fun h0 => ?_, by omega, by omega, hb⟩
 have hz : z ≠ 0 := fun q => h0 (Dv_eq_zero.2 q)
 have hp : 0 < (z.natAbs : Int) := by omega
 have c1 : cman (z.natAbs : Int) = cman z := by unfold cman; rw [Int.natAbs_natCast]
 have c2 : cexp (z.natAbs : Int) e = cexp z e := by unfold cexp; rw [if_neg hz, if_neg (by omega), Int.natAbs_natCast]
 have := top_pure (e := e) hp
 rw [c1, c2] at this
 rw [ab_Dv]
 exact this
theorem dint_q (n : Int) (w : World) (h1 : -9223372036854775808 ≤ n) (h2 : n < 9223372036854775808) :
 Calls Tryz.prog 21 #[.int .i64 n] w fun en w' => ∃ v', en = .returned v' ∧ PQ w' w.heap.size v' (n : Rat) 64 ∧ BL w w' := by
 refine (dint_any n w h1 h2).mono ?_
 rintro e w' ⟨v, rfl, h, hb⟩
 refine ⟨v, rfl, ⟨n, 0, h.p, by unfold Dv; rw [Rat.zpow_zero, Rat.mul_one], ?_, by decide, by decide⟩, hb⟩
 have : n.natAbs < 18446744073709551616 := by omega
 exact this
def Fub62_0 := [dg 0, dg 3, U, U, U, U, U, U, U, U, U, U, U, U, U, U, U, U, U, U, U, U, U, U, U, U, U]
def Fub62_1 := fs Fub62_0 [(2, ps 0 0), (3, ps 1 0), (4, ps 2 0)]
def Bub62_2 := [bb 25 (d3 0), bb 25 (d3 3), bb 25 o3]
def Rub62_3 : Rg := ⟨3, 6, 0, Fub62_0, Bub62_2, [pa 0 0, pa 1 0, pa 2 0], []⟩
def Fub62_4 := fs Fub62_1 [(5, ps 3 0), (6, ps 4 0), (7, dg 0), (8, dg 6), (9, dg 3), (10, dg 9)]
def Bub62_5 := [bb 25 (d3 0), bb 25 (d3 3), bb 25 o3, bb 25 o3, bb 25 o3]
def Rub62_6 : Rg := ⟨6, 6, 3, Fub62_1, Bub62_5, [pl (dg 0) 0 0 0, pc (dg 6) 0 44 [dg 0] 3, pl (dg 3) 0 1 0, pc (dg 9) 1 44 [dg 3] 3, pa 3 0, pa 4 0], [1, 3]⟩
def Bub62_7 := [bb 25 (d3 0), bb 25 (d3 3), bb 25 o3, bb 25 (d3 6), bb 25 (d3 9)]
def Fub62_8 := fs Fub62_4 [(11, ps 3 0), (12, vb 6), (13, ps 4 0), (14, vb 9), (15, bo .neq (vb 6) (vb 9)), (16, ps 3 1), (17, vs 7), (18, ps 4 1), (19, vs 10), (20, vs 12), (21, ps 3 2), (22, vi 8), (23, ps 4 2), (24, vi 11), (25, bo .add (vi 8) (vi 11)), (26, dg 13)]
def Rub62_9 : Rg := ⟨16, 12, 5, Fub62_4, Bub62_7, [pv (ps 3 0) 0, pl (vb 6) 0 3 0, pv (ps 4 0) 0, pl (vb 9) 0 4 0, pv (bo .neq (vb 6) (vb 9)) 0, pv (ps 3 1) 0, pl (vs 7) 0 3 1, pv (ps 4 1) 0, pl (vs 10) 0 4 1, pc (vs 12) 0 107 [vs 7, vs 10] 1, pv (ps 3 2) 0, pl (vi 8) 0 3 2, pv (ps 4 2) 0, pl (vi 11) 0 4 2, pv (bo .add (vi 8) (vi 11)) 0, pc (dg 13) 1 46 [bo .neq (vb 6) (vb 9), vs 12, bo .add (vi 8) (vi 11)] 3], [9, 15]⟩
def Bub62_10 := [bb 25 (d3 0), bb 25 (d3 3), bb 25 (d3 13), bb 25 (d3 6), bb 25 (d3 9)]
theorem dtimes_q {u v : Value} {a b : Rat} {N M : Nat} {w : World} (h : CQ w u a N) (h' : CQ w v b M) (hN : N ≤ 67108864) (hM : M ≤ 67108864) (hT : TB w) :
 Calls Tryz.prog 62 #[u, v] w fun en w' => ∃ v', en = .returned v' ∧ PQ w' w.heap.size v' (a * b) (N + M) ∧ BL w w' := by
 obtain ⟨z, e, h, rfl, hB⟩ := h
 obtain ⟨y, f, h', rfl, hB'⟩ := h'
 obtain ⟨b0, A0, n0, c0, x0, rfl⟩ := h.ex
 obtain ⟨b00, A00, n00, c00, x00, rfl⟩ := h'.ex
 have l := bd_len hB; have lo := bd_lo hB; have hi := bd_hi hB
 have hbl : bl (cman z) ≤ N := bl_le_iff.2 (bd_man hB)
 have l' := bd_len hB'; have lo' := bd_lo hB'; have hi' := bd_hi hB'
 have hbl' : bl (cman y) ≤ M := bl_le_iff.2 (bd_man hB')
 refine fn_enter (u := 64) (fn := Tryz.f62) Tryz.func62 rfl Fub62_0 [.bool b0, .slice A0 n0 c0, .int .i64 x0, .bool b00, .slice A00 n00 c00, .int .i64 x00] (by kernel_rfl) rfl (fun a0 S0 r0 => ?_)
 refine wp_seq (rk Rub62_3 [] Fub62_1 Bub62_2 S0 r0 ?_)
 intro _ _ _ r1 S1
 refine wp_seq (rk Rub62_6 [.st 3 0 (d3 6), .st 4 0 (d3 9)] Fub62_4 Bub62_7 S1 r1 ?_)
 intro _ _ r2 _
 refine (done_dy (h.below r2.first) hB hN).mono ?_
 rintro _ V1 ⟨v, rfl, h1, k1⟩
 obtain ⟨b1, A1, n1, c1, x1, rfl⟩ := h1.ex
 replace h1 := h1.lower r2.fs
 refine ⟨[.bool b1, .slice A1 n1 c1, .int .i64 x1], rfl, rfl, rfl, k1, ?_⟩
 obtain ⟨hb1, hx1, p1⟩ := h1.cells
 intro _ _ r3 _
 refine (done_dy (h'.below r3.first) hB' hM).mono ?_
 rintro _ V2 ⟨v, rfl, h2, k2⟩
 obtain ⟨b2, A2, n2, c2, x2, rfl⟩ := h2.ex
 replace h2 := h2.lower r3.fs
 refine ⟨[.bool b2, .slice A2 n2 c2, .int .i64 x2], rfl, rfl, rfl, k2, ?_⟩
 obtain ⟨hb2, hx2, p2⟩ := h2.cells
 have hX : IntKind.i64.wrap (x1 + x2) = cexp z e + cexp y f := by rw [hx1, hx2]; exact i64_id (by omega) (by omega)
 intro _ _ _ r4 S4
 refine wp_seq (rk Rub62_9 [.st 2 0 (d3 13)] Fub62_8 Bub62_10 S4 r4 ?_)
 intro _ _ r5 _
 refine (mul_d (p1.lat (r5.at_ 0 _ rfl)).c (p2.lat (r5.at_ 1 _ rfl)).c (by omega) (by omega)).mono ?_
 rintro _ V3 ⟨v, rfl, h3, k3⟩
 obtain ⟨A3, n3, c3, rfl⟩ := h3.ex
 replace h3 := h3.lower r5.fs
 refine ⟨[.slice A3 n3 c3], rfl, rfl, rfl, k3, ?_⟩
 intro W6 _ r6 _
 show Calls Tryz.prog 46 #[.bool (!(b1 == b2)), .slice A3 n3 c3, .int .i64 (IntKind.i64.wrap (x1 + x2))] W6 _
 refine (form_d _ _ (h3.lat (r6.at_ 2 _ rfl)).c (by have := bl_mul hbl hbl'; omega) (by rw [hX]; omega) (by rw [hX]; omega)).mono ?_
 rintro _ V4 ⟨v, rfl, h4, k4⟩
 obtain ⟨b4, A4, n4, c4, x4, rfl⟩ := h4.ex
 replace h4 := h4.lower r6.fs
 refine ⟨[.bool b4, .slice A4 n4 c4, .int .i64 x4], rfl, rfl, rfl, k4, ?_⟩
 intro _ _ _ r7 S7
 exact rt S7 [.agg #[.bool b4, .slice A4 n4 c4, .int .i64 x4]] (⟨_, rfl, ⟨z * y, e + f, (h4.lat (r7.at_ 3 _ rfl)).as_ (by rw [hX]; refine (congrArg (fun t => Dv t _) (sgn_mul b1 b2 _ _)).trans ?_; rw [← Dv_mul, hb1, hb2, ← Dv_form, ← Dv_form, Dv_mul]), Dv_mul _ _ _ _, hB.mul hB'⟩, r7.first⟩)
def Fub93_0 := [dg 0, U, U, U, U, U, U, U, U, U, U]
def Fub93_1 := fs Fub93_0 [(1, ps 0 0), (2, ps 1 0)]
def Bub93_2 := [bb 25 (d3 0), bb 25 o3]
def Rub93_3 : Rg := ⟨2, 3, 0, Fub93_0, Bub93_2, [pa 0 0, pa 1 0], []⟩
def Fub93_4 := fs Fub93_1 [(3, ps 0 0), (4, vb 0), (5, f1 noF (vb 0)), (6, ps 0 1), (7, vs 1), (8, ps 0 2), (9, vi 2), (10, dg 3)]
def Rub93_5 : Rg := ⟨8, 3, 2, Fub93_1, Bub93_2, [pv (ps 0 0) 0, pl (vb 0) 0 0 0, pv (f1 noF (vb 0)) 0, pv (ps 0 1) 0, pl (vs 1) 0 0 1, pv (ps 0 2) 0, pl (vi 2) 0 0 2, pc (dg 3) 0 46 [f1 noF (vb 0), vs 1, vi 2] 3], [7]⟩
def Bub93_6 := [bb 25 (d3 0), bb 25 (d3 3)]
theorem dneg_q {v : Value} {a : Rat} {N : Nat} {w : World} (h : CQ w v a N) (hN : N ≤ 67108864) (hT : TB w) :
 Calls Tryz.prog 93 #[v] w fun en w' => ∃ v', en = .returned v' ∧ PQ w' w.heap.size v' (-a) N ∧ BL w w' := by
 obtain ⟨z, e, h, rfl, hB⟩ := h
 obtain ⟨b0, A0, n0, c0, x0, rfl⟩ := h.ex
 obtain ⟨hb0, hx0, p0⟩ := h.cells
 have l := bd_len hB; have lo := bd_lo hB; have hi := bd_hi hB
 have hbl : bl (cman z) ≤ N := bl_le_iff.2 (bd_man hB)
 refine fn_enter (u := 64) (fn := Tryz.f93) Tryz.func93 rfl Fub93_0 [.bool b0, .slice A0 n0 c0, .int .i64 x0] (by kernel_rfl) rfl (fun a0 S0 r0 => ?_)
 refine wp_seq (rk Rub93_3 [] Fub93_1 Bub93_2 S0 r0 ?_)
 intro _ _ _ r1 S1
 refine wp_seq (rk Rub93_5 [.st 1 0 (d3 3)] Fub93_4 Bub93_6 S1 r1 ?_)
 intro W2 _ r2 _
 show Calls Tryz.prog 46 #[.bool (!b0), .slice A0 n0 c0, .int .i64 x0] W2 _
 refine (form_d _ _ (p0.below r2.first) (by omega) (by omega) (by omega)).mono ?_
 rintro _ V1 ⟨v, rfl, h1, k1⟩
 obtain ⟨b1, A1, n1, c1, x1, rfl⟩ := h1.ex
 replace h1 := h1.lower r2.fs
 refine ⟨[.bool b1, .slice A1 n1 c1, .int .i64 x1], rfl, rfl, rfl, k1, ?_⟩
 intro _ _ _ r3 S3
 exact rt S3 [.agg #[.bool b1, .slice A1 n1 c1, .int .i64 x1]] (⟨_, rfl, ⟨-z, e, (h1.lat (r3.at_ 0 _ rfl)).as_ (by rw [Dv_neg, Dv_form z e, hb0, hx0]; cases cneg z <;> (unfold sgn; simp [← Dv_neg])), (Dv_neg z e).symm, hB.neg⟩, r3.first⟩)
def Fub114_0 := [dg 0, vi 3, U, U, U, U, U, U, U, U, U, U, U, U]
def Fub114_1 := fs Fub114_0 [(2, ps 0 0), (4, ps 1 0)]
def Bub114_2 := [bb 25 (d3 0), bb 25 o3]
def Rub114_3 : Rg := ⟨2, 4, 0, Fub114_0, Bub114_2, [pa 0 0, pa 1 0], []⟩
def Fub114_4 := fs Fub114_1 [(5, ps 0 0), (6, vb 0), (7, ps 0 1), (8, vs 1), (9, ps 0 2), (10, vi 2), (11, vi 3), (12, bo .add (vi 2) (vi 3)), (13, dg 4)]
def Rub114_5 : Rg := ⟨9, 4, 2, Fub114_1, Bub114_2, [pv (ps 0 0) 0, pl (vb 0) 0 0 0, pv (ps 0 1) 0, pl (vs 1) 0 0 1, pv (ps 0 2) 0, pl (vi 2) 0 0 2, pv (vi 3) 0, pv (bo .add (vi 2) (vi 3)) 0, pc (dg 4) 0 46 [vb 0, vs 1, bo .add (vi 2) (vi 3)] 3], [8]⟩
def Bub114_6 := [bb 25 (d3 0), bb 25 (d3 4)]
structure GQ (w : World) (v : Value) (q : Rat) (N : Nat) : Prop where
 ex : ∃ b A n c x, v = .agg #[.bool b, .slice A n c, .int .i64 x]
 sg : ∀ W, BL w W → Calls Tryz.prog 25 #[v] W fun en w' => en = .returned (.int .i64 (sgnQ q)) ∧ BL W w'
 tp : ∀ W, BL w W → Calls Tryz.prog 43 #[v] W fun en w' => ∃ T : Int, en = .returned (.int .i64 T) ∧ (q ≠ 0 → (2 : Rat) ^ T ≤ ab q ∧ ab q < (2 : Rat) ^ (T + 1)) ∧ BL W w'
 ng : ∀ W, BL w W → Calls Tryz.prog 93 #[v] W fun en w' => ∃ v', en = .returned v' ∧ PQ w' W.heap.size v' (-q) N ∧ BL W w'
 on : ∃ y x, q = Dv y x ∧ Bd N y x ∧ ∀ W, BL w W → Calls Tryz.prog 44 #[v] W fun en w' => ∃ v', en = .returned v' ∧ PDy w' W.heap.size v' y x ∧ BL W w'
theorem GQ.below {w w1 : World} {v : Value} {q : Rat} {N : Nat} (h : GQ w v q N) (hb : BL w w1) : GQ w1 v q N := by
 have t := fun W (hW : BL w1 W) => below_then hb hb.size hW
 obtain ⟨h1, h2, h3, h4, y, x, e1, e2, h5⟩ := h
 exact ⟨h1, fun W hW => h2 W (t W hW), fun W hW => h3 W (t W hW), fun W hW => h4 W (t W hW), y, x, e1, e2, fun W hW => h5 W (t W hW)⟩
theorem CQ.g {w : World} {v : Value} {q : Rat} {N : Nat} (h : CQ w v q N) (hN : N ≤ 67108864) (hT : TB w) : GQ w v q N := by
 refine ⟨h.ex, fun W hW => dsign_q (h.below hW) hN, fun W hW => (dtop_q (h.below hW) hN).mono ?_, fun W hW => dneg_q (h.below hW) hN (tab_below hT hW), ?_⟩
 · rintro en w' ⟨T, h1, h2, _, _, h3⟩; exact ⟨T, h1, h2, h3⟩
 · obtain ⟨y, x, h1, h2, h3⟩ := h
   exact ⟨y, x, h2, h3, fun W hW => done_dy (h1.below hW) h3 hN⟩
theorem dplus_g {u v : Value} {a b : Rat} {N M : Nat} {w : World} (h : GQ w u a N) (h' : GQ w v b M) (hN : N + M ≤ 67108864) :
 Calls Tryz.prog 27 #[u, v] w fun en w' => ∃ v', en = .returned v' ∧ PQ w' w.heap.size v' (a + b) (2 * (N + M) + 1) ∧ BL w w' := by
 obtain ⟨y, x, rfl, B1, Q1⟩ := h.on
 obtain ⟨z, x', rfl, B2, Q2⟩ := h'.on
 obtain ⟨_, _, _, _, _, rfl⟩ := h.ex
 obtain ⟨_, _, _, _, _, rfl⟩ := h'.ex
 exact dplus_of B1 B2 hN Q1 Q2
def Fub52_0 := [dg 0, dg 3, U, U, U, U, U, U, U]
def Fub52_1 := fs Fub52_0 [(2, ps 0 0), (3, ps 1 0), (4, ps 2 0)]
def Bub52_2 := [bb 25 (d3 0), bb 25 (d3 3), bb 25 o3]
def Rub52_3 : Rg := ⟨3, 6, 0, Fub52_0, Bub52_2, [pa 0 0, pa 1 0, pa 2 0], []⟩
def Fub52_4 := fs Fub52_1 [(5, dg 0), (6, dg 3), (7, dg 6), (8, dg 9)]
def Rub52_5 : Rg := ⟨4, 6, 3, Fub52_1, Bub52_2, [pl (dg 0) 0 0 0, pl (dg 3) 0 1 0, pc (dg 6) 0 93 [dg 3] 3, pc (dg 9) 1 27 [dg 0, dg 6] 3], [2, 3]⟩
def Bub52_6 := [bb 25 (d3 0), bb 25 (d3 3), bb 25 (d3 9)]
theorem dless_g {u v : Value} {a b : Rat} {N M : Nat} {w : World} (h : GQ w u a N) (h' : GQ w v b M) (hN : N + M ≤ 67108864) (hT : TB w) :
 Calls Tryz.prog 52 #[u, v] w fun en w' => ∃ v', en = .returned v' ∧ PQ w' w.heap.size v' (a - b) (2 * (N + M) + 1) ∧ BL w w' := by
 obtain ⟨b0, A0, n0, c0, x0, rfl⟩ := h.ex
 obtain ⟨b00, A00, n00, c00, x00, rfl⟩ := h'.ex
 refine fn_enter (u := 64) (fn := Tryz.f52) Tryz.func52 rfl Fub52_0 [.bool b0, .slice A0 n0 c0, .int .i64 x0, .bool b00, .slice A00 n00 c00, .int .i64 x00] (by kernel_rfl) rfl (fun a0 S0 r0 => ?_)
 refine wp_seq (rk Rub52_3 [] Fub52_1 Bub52_2 S0 r0 ?_)
 intro _ _ _ r1 S1
 refine wp_seq (rk Rub52_5 [.st 2 0 (d3 9)] Fub52_4 Bub52_6 S1 r1 ?_)
 intro _ _ r2 _
 refine ((h'.below r2.first).ng _ yr).mono ?_
 rintro _ V1 ⟨v, rfl, h1, k1⟩
 obtain ⟨b1, A1, n1, c1, x1, rfl⟩ := h1.ex
 replace h1 := h1.lower r2.fs
 refine ⟨[.bool b1, .slice A1 n1 c1, .int .i64 x1], rfl, rfl, rfl, k1, ?_⟩
 intro _ _ r3 _
 refine (dplus_g (h.below r3.first) ((h1.lat (r3.at_ 0 _ rfl)).c.g (by omega) (tb hT r3)) hN).mono ?_
 rintro _ V2 ⟨v, rfl, h2, k2⟩
 obtain ⟨b2, A2, n2, c2, x2, rfl⟩ := h2.ex
 replace h2 := h2.lower r3.fs
 refine ⟨[.bool b2, .slice A2 n2 c2, .int .i64 x2], rfl, rfl, rfl, k2, ?_⟩
 intro _ _ _ r4 S4
 exact rt S4 [.agg #[.bool b2, .slice A2 n2 c2, .int .i64 x2]] (⟨_, rfl, Rat.sub_eq_add_neg a b ▸ (h2.lat (r4.at_ 1 _ rfl)), r4.first⟩)
theorem sgn_sub (a b : Rat) : sgnQ (a - b) = cmpQ a b := by
 unfold sgnQ cmpQ
 by_cases h1 : a < b
 · rw [if_pos h1, if_neg (by grind), if_pos (by grind)]
 · by_cases h2 : b < a
   · rw [if_neg h1, if_pos h2, if_neg (by grind), if_neg (by grind)]
   · rw [if_neg h1, if_neg h2, if_pos (by grind)]
theorem sgnQ_cases (a : Rat) : (a < 0 ∧ sgnQ a = -1) ∨ (a = 0 ∧ sgnQ a = 0) ∨ (0 < a ∧ sgnQ a = 1) := by
 unfold sgnQ
 by_cases h1 : a = 0
 · exact .inr (.inl ⟨h1, if_pos h1⟩)
 · by_cases h2 : a < 0
   · exact .inl ⟨h2, by rw [if_neg h1, if_pos h2]⟩
   · exact .inr (.inr ⟨by grind, by rw [if_neg h1, if_neg h2]⟩)
theorem ord_l {a b : Rat} (h : sgnQ a < sgnQ b) : cmpQ a b = -1 := by
 have := sgnQ_cases a; have := sgnQ_cases b
 exact if_pos (by grind)
theorem ord_g {a b : Rat} (h : sgnQ b < sgnQ a) : cmpQ a b = 1 := by
 have := sgnQ_cases a; have := sgnQ_cases b
 unfold cmpQ
 rw [if_neg (by grind), if_pos (by grind)]
theorem ord_0 {a b : Rat} (h : ¬ sgnQ a < sgnQ b) (h' : ¬ sgnQ b < sgnQ a) (h0 : sgnQ a = 0) : cmpQ a b = 0 := by
 have := sgnQ_cases a; have := sgnQ_cases b
 unfold cmpQ
 rw [if_neg (by grind), if_neg (by grind)]
theorem ord_tt {a b : Rat} {x y : Int} (h1 : sgnQ a = sgnQ b) (h0 : sgnQ a ≠ 0) (ha : a ≠ 0 → (2 : Rat) ^ x ≤ ab a ∧ ab a < (2 : Rat) ^ (x + 1)) (hb : b ≠ 0 → (2 : Rat) ^ y ≤ ab b ∧ ab b < (2 : Rat) ^ (y + 1)) (h : y < x) : cmpQ a b = sgnQ a ∧ cmpQ b a = -sgnQ b := by
 have e1 := sgnQ_cases a; have e2 := sgnQ_cases b
 have ha := ha (by grind); have hb := hb (by grind)
 have hm := pw_mono (a := y + 1) (b := x) (by omega)
 have hlt : ab b < ab a := by grind
 unfold ab at hlt
 unfold cmpQ
 rcases e1 with ⟨p, q⟩ | ⟨p, q⟩ | ⟨p, q⟩
 · have hb0 : b < 0 := by grind
   rw [if_neg (by grind), if_neg (by grind)] at hlt
   rw [if_pos (by grind), if_neg (by grind), if_pos (by grind), q, show sgnQ b = -1 by grind]
   exact ⟨rfl, rfl⟩
 · exact absurd q h0
 · have hb0 : 0 < b := by grind
   rw [if_pos (by grind), if_pos (by grind)] at hlt
   rw [if_neg (by grind), if_pos (by grind), if_pos (by grind), q, show sgnQ b = 1 by grind]
   exact ⟨rfl, rfl⟩
theorem sgn_wrap (a : Rat) : IntKind.i64.wrap (0 - sgnQ a) = -sgnQ a := by
 have := sgnQ_cases a
 rw [i64_id (by omega) (by omega)]; omega
def Fub26_0 := [dg 0, dg 3, U, U, U, U, U, U, U, U, U, U, U, U, U, U, U, U, U, U, U, U, U, U, U, U, U, U, U, U, U, U, U, U, U, U, U, U, U, U, U]
def Fub26_1 := fs Fub26_0 [(2, ps 0 0), (3, ps 1 0), (4, li 0)]
def Bub26_2 := [bb 25 (d3 0), bb 25 (d3 3)]
def Rub26_3 : Rg := ⟨3, 6, 0, Fub26_0, Bub26_2, [pa 0 0, pa 1 0, pv (li 0) 0], []⟩
def Fub26_4 := fs Fub26_1 [(5, vi 6), (6, vi 7), (9, dg 0), (10, vi 6), (11, dg 3), (12, vi 7)]
def Rub26_5 : Rg := ⟨6, 6, 2, Fub26_1, Bub26_2, [pl (dg 0) 0 0 0, pc (vi 6) 0 25 [dg 0] 1, pl (dg 3) 0 1 0, pc (vi 7) 1 25 [dg 3] 1, pv (vi 6) 2, pv (vi 7) 2], [1, 3]⟩
def Fub26_6 := fs Fub26_4 [(13, bo .lss (vi 6) (vi 7)), (14, vi 6), (15, vi 7), (16, bo .lss (vi 6) (vi 7))]
def Rub26_7 : Rg := ⟨4, 8, 2, Fub26_4, Bub26_2, [pv (vi 6) 0, pv (vi 7) 0, pv (bo .lss (vi 6) (vi 7)) 0, pv (bo .lss (vi 6) (vi 7)) 0], []⟩
def Fub26_8 := fs Fub26_6 [(4, li (-1))]
def Rub26_9 : Rg := ⟨1, 8, 2, Fub26_6, Bub26_2, [pv (li (-1)) 0], []⟩
def Fub26_10 := fs Fub26_6 [(17, bo .gtr (vi 6) (vi 7)), (18, vi 6), (19, vi 7), (20, bo .gtr (vi 6) (vi 7))]
def Rub26_11 : Rg := ⟨4, 8, 2, Fub26_6, Bub26_2, [pv (vi 6) 0, pv (vi 7) 0, pv (bo .gtr (vi 6) (vi 7)) 0, pv (bo .gtr (vi 6) (vi 7)) 0], []⟩
def Fub26_12 := fs Fub26_10 [(4, li 1)]
def Rub26_13 : Rg := ⟨1, 8, 2, Fub26_10, Bub26_2, [pv (li 1) 0], []⟩
def Fub26_14 := fs Fub26_10 [(21, bo .eql (vi 6) (li 0)), (22, vi 6), (23, bo .eql (vi 6) (li 0))]
def Rub26_15 : Rg := ⟨3, 8, 2, Fub26_10, Bub26_2, [pv (vi 6) 0, pv (bo .eql (vi 6) (li 0)) 0, pv (bo .eql (vi 6) (li 0)) 0], []⟩
def Rub26_16 : Rg := ⟨1, 8, 2, Fub26_14, Bub26_2, [pv (li 0) 0], []⟩
def Fub26_17 := fs Fub26_14 [(7, vi 8), (8, vi 9), (24, dg 0), (25, vi 8), (26, dg 3), (27, vi 9)]
def Rub26_18 : Rg := ⟨6, 8, 2, Fub26_14, Bub26_2, [pl (dg 0) 0 0 0, pc (vi 8) 0 43 [dg 0] 1, pl (dg 3) 0 1 0, pc (vi 9) 1 43 [dg 3] 1, pv (vi 8) 2, pv (vi 9) 2], [1, 3]⟩
def Fub26_19 := fs Fub26_17 [(28, vi 8), (29, vi 9), (30, bo .neq (vi 8) (vi 9))]
def Rub26_20 : Rg := ⟨3, 10, 2, Fub26_17, Bub26_2, [pv (vi 8) 0, pv (vi 9) 0, pv (bo .neq (vi 8) (vi 9)) 0], []⟩
def Fub26_21 := fs Fub26_19 [(31, vi 8), (32, vi 9), (33, bo .gtr (vi 8) (vi 9))]
def Rub26_22 : Rg := ⟨3, 10, 2, Fub26_19, Bub26_2, [pv (vi 8) 0, pv (vi 9) 0, pv (bo .gtr (vi 8) (vi 9)) 0], []⟩
def Fub26_23 := fs Fub26_21 [(4, vi 6), (34, vi 6)]
def Rub26_24 : Rg := ⟨2, 10, 2, Fub26_21, Bub26_2, [pv (vi 6) 0, pv (vi 6) 0], []⟩
def Fub26_25 := fs Fub26_21 [(4, f1 ngF (vi 6)), (35, vi 6), (36, f1 ngF (vi 6))]
def Rub26_26 : Rg := ⟨3, 10, 2, Fub26_21, Bub26_2, [pv (vi 6) 0, pv (f1 ngF (vi 6)) 0, pv (f1 ngF (vi 6)) 0], []⟩
def Fub26_27 := fs Fub26_19 [(4, vi 13), (37, dg 0), (38, dg 3), (39, dg 10), (40, vi 13)]
def Rub26_28 : Rg := ⟨5, 10, 2, Fub26_19, Bub26_2, [pl (dg 0) 0 0 0, pl (dg 3) 0 1 0, pc (dg 10) 0 52 [dg 0, dg 3] 3, pc (vi 13) 1 25 [dg 10] 1, pv (vi 13) 2], [2, 3]⟩
theorem dorder_g {u v : Value} {a b : Rat} {N M : Nat} {w : World} (h : GQ w u a N) (h' : GQ w v b M) (hN : N + M ≤ 33554431) (hT : TB w) :
 Calls Tryz.prog 26 #[u, v] w fun en w' => en = .returned (.int .i64 (cmpQ a b)) ∧ BL w w' := by
 obtain ⟨b0, A0, n0, c0, x0, rfl⟩ := h.ex
 obtain ⟨b00, A00, n00, c00, x00, rfl⟩ := h'.ex
 refine fn_enter (u := 64) (fn := Tryz.f26) Tryz.func26 rfl Fub26_0 [.bool b0, .slice A0 n0 c0, .int .i64 x0, .bool b00, .slice A00 n00 c00, .int .i64 x00] (by kernel_rfl) rfl (fun a0 S0 r0 => ?_)
 refine wp_seq (rk Rub26_3 [] Fub26_1 Bub26_2 S0 r0 ?_)
 intro _ _ _ r1 S1
 refine wp_seq (rk Rub26_5 [] Fub26_4 Bub26_2 S1 r1 ?_)
 intro _ _ r2 _
 refine ((h.below r2.first).sg _ yr).mono ?_
 rintro _ V1 ⟨rfl, k1⟩
 refine ⟨[.int .i64 (sgnQ a)], rfl, rfl, rfl, k1, ?_⟩
 intro _ _ r3 _
 refine ((h'.below r3.first).sg _ yr).mono ?_
 rintro _ V2 ⟨rfl, k2⟩
 refine ⟨[.int .i64 (sgnQ b)], rfl, rfl, rfl, k2, ?_⟩
 intro _ _ _ r4 S4
 refine wp_seq ?_
 refine wp_block ?_
 refine wp_seq (rk Rub26_7 [] Fub26_6 Bub26_2 S4 r4 ?_)
 intro _ _ _ r5 S5
 refine wp_cond_split (t := decide ((sgnQ a) < (sgnQ b))) (S5.cnd (by kernel_rfl)) (fun q1 => ?_) (fun q1 => ?_)
 · refine wp_seq (rk Rub26_9 [] Fub26_8 Bub26_2 S5 r5 ?_)
   intro a6 g6 W6 r6 S6
   exact wp_ret (blk_ret (then_ret (ret_ok S6 [.int .i64 (-1)] (by kernel_rfl) (⟨by rw [ord_l (of_decide_eq_true q1)]; rfl, r6.first⟩))))
 · refine wp_seq (rk Rub26_11 [] Fub26_10 Bub26_2 S5 r5 ?_)
   intro a6 g6 W6 r6 S6
   refine wp_cond_split (t := decide ((sgnQ a) > (sgnQ b))) (S6.cnd (by kernel_rfl)) (fun q2 => ?_) (fun q2 => ?_)
   · refine wp_seq (rk Rub26_13 [] Fub26_12 Bub26_2 S6 r6 ?_)
     intro a7 g7 W7 r7 S7
     exact wp_ret (blk_ret (then_ret (ret_ok S7 [.int .i64 1] (by kernel_rfl) (⟨by rw [ord_g (of_decide_eq_true q2)]; rfl, r7.first⟩))))
   · refine wp_seq (rk Rub26_15 [] Fub26_14 Bub26_2 S6 r6 ?_)
     intro a7 g7 W7 r7 S7
     refine wp_cond_split (t := (sgnQ a) == 0) (S7.cnd (by kernel_rfl)) (fun q3 => ?_) (fun q3 => ?_)
     · have h0 : sgnQ a = 0 := by simpa using q3
       refine wp_seq (rk Rub26_16 [] Fub26_14 Bub26_2 S7 r7 ?_)
       intro _ g8 W8 r8 S8
       exact wp_ret (blk_ret (then_ret (ret_ok S8 [.int .i64 0] (by kernel_rfl) (⟨by rw [ord_0 (of_decide_eq_false q1) (of_decide_eq_false q2) h0]; rfl, r8.first⟩))))
     · have h0 : sgnQ a ≠ 0 := by simpa using q3
       have hs : sgnQ a = sgnQ b := by have := of_decide_eq_false q1; have := of_decide_eq_false q2; omega
       refine wp_skip ?_
       refine wp_seq (rk Rub26_18 [] Fub26_17 Bub26_2 S7 r7 ?_)
       intro W8 g8 r8 _
       refine ((h.below r8.first).tp _ yr).mono ?_
       rintro _ V3 ⟨X, rfl, gX, k3⟩
       refine ⟨[.int .i64 X], rfl, rfl, rfl, k3, ?_⟩
       intro _ _ r9 _
       refine ((h'.below r9.first).tp _ yr).mono ?_
       rintro _ V4 ⟨Y, rfl, gY, k4⟩
       refine ⟨[.int .i64 Y], rfl, rfl, rfl, k4, ?_⟩
       intro _ _ _ r10 S10
       refine wp_seq ?_
       refine wp_seq (rk Rub26_20 [] Fub26_19 Bub26_2 S10 r10 ?_)
       intro _ _ _ r11 S11
       refine wp_cond_split (t := X != Y) (S11.cnd (by kernel_rfl)) (fun q4 => ?_) (fun q4 => ?_)
       · refine wp_seq ?_
         refine wp_seq (rk Rub26_22 [] Fub26_21 Bub26_2 S11 r11 ?_)
         intro _ g12 W12 r12 S12
         refine wp_cond_split (t := decide (X > Y)) (S12.cnd (by kernel_rfl)) (fun q5 => ?_) (fun q5 => ?_)
         · refine wp_seq (rk Rub26_24 [] Fub26_23 Bub26_2 S12 r12 ?_)
           intro a13 g13 W13 r13 S13
           exact wp_ret (then_ret (then_ret (ret_ok S13 [.int .i64 (sgnQ a)] (by kernel_rfl) (⟨by rw [(ord_tt hs h0 gX gY (of_decide_eq_true q5)).1]; rfl, r13.first⟩))))
         · have hXY : X < Y := by have := of_decide_eq_false q5; have h9 : X ≠ Y := (by simpa using q4); omega
           refine wp_skip ?_
           refine wp_seq (rk Rub26_26 [] Fub26_25 Bub26_2 S12 r12 ?_)
           intro a13 g13 W13 r13 S13
           exact wp_ret (then_ret (ret_ok S13 [.int .i64 (IntKind.i64.wrap (0 - (sgnQ a)))] (by kernel_rfl) (⟨by rw [sgn_wrap, (ord_tt hs.symm (by rw [← hs]; exact h0) gY gX hXY).2]; rfl, r13.first⟩)))
       · refine wp_skip ?_
         refine wp_seq (rk Rub26_28 [] Fub26_27 Bub26_2 S11 r11 ?_)
         intro W12 g12 r12 _
         refine (dless_g (h.below r12.first) (h'.below r12.first) (by omega) (tb hT r12)).mono ?_
         rintro _ V5 ⟨v, rfl, h5, k5⟩
         obtain ⟨b5, A5, n5, c5, x5, rfl⟩ := h5.ex
         replace h5 := h5.lower r12.fs
         refine ⟨[.bool b5, .slice A5 n5 c5, .int .i64 x5], rfl, rfl, rfl, k5, ?_⟩
         intro W13 g13 r13 _
         refine (dsign_q (h5.lat (r13.at_ 4 _ rfl)).c (by omega)).mono ?_
         rintro _ V6 ⟨rfl, k6⟩
         refine ⟨[.int .i64 (sgnQ (a - b))], rfl, rfl, rfl, k6, ?_⟩
         intro _ _ _ r14 S14
         exact rt S14 [.int .i64 (sgnQ (a - b))] (⟨by rw [sgn_sub]; rfl, r14.first⟩)
theorem dorder_q {u v : Value} {a b : Rat} {N M : Nat} {w : World} (h : CQ w u a N) (h' : CQ w v b M) (hN : N + M ≤ 33554431) (hT : TB w) :
 Calls Tryz.prog 26 #[u, v] w fun en w' => en = .returned (.int .i64 (cmpQ a b)) ∧ BL w w' :=
 dorder_g (h.g (by omega) hT) (h'.g (by omega) hT) hN hT
theorem cman_lost {z : Int} (h : z ≠ 0) {k : Nat} (hk : 0 < k) : (cman z % 2 ^ k != 0) = true := by
 have h1 : cman z % 2 = 1 := (tz_spec _ (show z.natAbs ≠ 0 by omega)).2
 obtain ⟨j, rfl⟩ : ∃ j, k = j + 1 := ⟨k - 1, by omega⟩
 have : cman z % 2 ^ (j + 1) ≠ 0 := by
  intro h2
  have h3 := Nat.mod_mod_of_dvd (cman z) (show 2 ∣ 2 ^ (j + 1) from ⟨2 ^ j, by rw [Nat.pow_succ]; omega⟩)
  rw [h2] at h3; omega
 simpa using this
def Fub108_0 := [dg 0, vi 3, vb 4, U, U, U, U, U, U, U, U, U, U, U, U, U, U, U, U, U, U, U, U, U, U, U, U, U, U, U, U, U, U, U, U, U, U, U, U, U, U, U, U, U, U, U, U, U, U]
def Fub108_1 := fs Fub108_0 [(3, ps 0 0), (6, ps 1 0)]
def Bub108_2 := [bb 25 (d3 0), bb 25 o3]
def Rub108_3 : Rg := ⟨2, 5, 0, Fub108_0, Bub108_2, [pa 0 0, pa 1 0], []⟩
def Fub108_4 := fs Fub108_1 [(7, ps 2 0), (11, dg 0), (12, dg 5)]
def Bub108_5 := [bb 25 (d3 0), bb 25 o3, bb 25 o3]
def Rub108_6 : Rg := ⟨3, 5, 2, Fub108_1, Bub108_5, [pl (dg 0) 0 0 0, pc (dg 5) 0 44 [dg 0] 3, pa 2 0], [1]⟩
def Bub108_7 := [bb 25 (d3 0), bb 25 o3, bb 25 (d3 5)]
def Fub108_8 := fs Fub108_4 [(8, vi 8), (13, ps 2 1), (14, vs 6), (15, vi 8)]
def Rub108_9 : Rg := ⟨4, 8, 3, Fub108_4, Bub108_7, [pv (ps 2 1) 0, pl (vs 6) 0 2 1, pc (vi 8) 0 90 [vs 6] 1, pv (vi 8) 1], [2]⟩
def Fub108_10 := fs Fub108_8 [(16, vi 8), (17, vi 3), (18, bo .leq (vi 8) (vi 3))]
def Rub108_11 : Rg := ⟨3, 9, 3, Fub108_8, Bub108_7, [pv (vi 8) 0, pv (vi 3) 0, pv (bo .leq (vi 8) (vi 3)) 0], []⟩
def Fub108_12 := fs Fub108_10 [(19, dg 5)]
def Rub108_13 : Rg := ⟨1, 9, 3, Fub108_10, Bub108_7, [pl (dg 5) 0 2 0], []⟩
def Bub108_14 := [bb 25 (d3 0), bb 25 (d3 5), bb 25 (d3 5)]
def Fub108_15 := fs Fub108_10 [(9, vs 9), (10, vb 10), (20, tu [vs 9, vb 10]), (21, ps 2 1), (22, vs 6), (23, vi 8), (24, vi 3), (25, bo .sub (vi 8) (vi 3)), (26, tu [vs 9, vb 10]), (27, vs 9), (28, vb 10)]
def Rub108_16 : Rg := ⟨11, 9, 3, Fub108_10, Bub108_7, [pv (ps 2 1) 0, pl (vs 6) 0 2 1, pv (vi 8) 0, pv (vi 3) 0, pv (bo .sub (vi 8) (vi 3)) 0, pc (tu [vs 9, vb 10]) 0 92 [vs 6, bo .sub (vi 8) (vi 3)] 2, pv (tu [vs 9, vb 10]) 1, pv (vs 9) 1, pv (vb 10) 1, pv (vs 9) 1, pv (vb 10) 1], [5]⟩
def Fub108_17 := fs Fub108_15 [(29, vb 10), (30, vb 10), (31, gd true (vb 10) (vb 4)), (32, gd true (vb 10) (ps 2 0)), (33, gd true (vb 10) (vb 5)), (34, gd true (vb 10) (bo .neq (vb 4) (vb 5))), (35, pk (vb 10) (bo .neq (vb 4) (vb 5)) (lb false))]
def Rub108_18 : Rg := ⟨7, 11, 3, Fub108_15, Bub108_7, [pv (vb 10) 0, pv (vb 10) 0, ⟨vb 4, 0, [], .val, gd true (vb 10) (vb 4)⟩, ⟨ps 2 0, 0, [], .val, gd true (vb 10) (ps 2 0)⟩, ⟨vb 5, 0, [], .ld 2 0, gd true (vb 10) (vb 5)⟩, ⟨bo .neq (vb 4) (vb 5), 0, [], .val, gd true (vb 10) (bo .neq (vb 4) (vb 5))⟩, ⟨pk (vb 10) (bo .neq (vb 4) (vb 5)) (lb false), 0, [], .pk, pk (vb 10) (bo .neq (vb 4) (vb 5)) (lb false)⟩], []⟩
def Fub108_19 := fs Fub108_17 [(9, vs 12), (36, vs 9), (37, vs 11), (38, vs 12)]
def Rub108_20 : Rg := ⟨3, 11, 3, Fub108_17, Bub108_7, [pv (vs 9) 0, pc (vs 11) 0 47 [lu 1] 1, pc (vs 12) 1 54 [vs 9, vs 11] 1], [1, 2]⟩
def Fub108_21 := fs Fub108_19 [(39, ps 2 0), (40, vb 5), (41, vs 12), (42, ps 2 2), (43, vi 7), (44, vi 8), (45, bo .add (vi 7) (vi 8)), (46, vi 3), (47, bo .sub (bo .add (vi 7) (vi 8)) (vi 3)), (48, dg 13)]
def Rub108_22 : Rg := ⟨10, 13, 3, Fub108_19, Bub108_7, [pv (ps 2 0) 0, pl (vb 5) 0 2 0, pv (vs 12) 0, pv (ps 2 2) 0, pl (vi 7) 0 2 2, pv (vi 8) 0, pv (bo .add (vi 7) (vi 8)) 0, pv (vi 3) 0, pv (bo .sub (bo .add (vi 7) (vi 8)) (vi 3)) 0, pc (dg 13) 0 46 [vb 5, vs 12, bo .sub (bo .add (vi 7) (vi 8)) (vi 3)] 3], [9]⟩
def Bub108_23 := [bb 25 (d3 0), bb 25 (d3 13), bb 25 (d3 5)]
def Fub108_24 := fs Fub108_17 [(39, ps 2 0), (40, vb 5), (41, vs 9), (42, ps 2 2), (43, vi 7), (44, vi 8), (45, bo .add (vi 7) (vi 8)), (46, vi 3), (47, bo .sub (bo .add (vi 7) (vi 8)) (vi 3)), (48, dg 11)]
def Rub108_25 : Rg := ⟨10, 11, 3, Fub108_17, Bub108_7, [pv (ps 2 0) 0, pl (vb 5) 0 2 0, pv (vs 9) 0, pv (ps 2 2) 0, pl (vi 7) 0 2 2, pv (vi 8) 0, pv (bo .add (vi 7) (vi 8)) 0, pv (vi 3) 0, pv (bo .sub (bo .add (vi 7) (vi 8)) (vi 3)) 0, pc (dg 11) 0 46 [vb 5, vs 9, bo .sub (bo .add (vi 7) (vi 8)) (vi 3)] 3], [9]⟩
def Bub108_26 := [bb 25 (d3 0), bb 25 (d3 11), bb 25 (d3 5)]
theorem dtrim_x {v : Value} {q : Rat} {N p : Nat} {up : Bool} {w : World} (h : CQ w v q N) (hN : N ≤ 67108864) (hp : 1 ≤ p) (hp2 : p ≤ 67108864) (hT : TB w) :
 Calls Tryz.prog 108 #[v, .int .i64 (p : Int), .bool up] w fun en w' => ∃ v' c, en = .returned v' ∧ PQ w' w.heap.size v' c (N + 1) ∧ CutOf up q c (ep p) ∧ Short p c ∧ CutX up p q c ∧ BL w w' := by
 obtain ⟨z, e, h, rfl, hB⟩ := h
 obtain ⟨b0, A0, n0, c0, x0, rfl⟩ := h.ex
 have l := bd_len hB; have lo := bd_lo hB; have hi := bd_hi hB
 have hbl : bl (cman z) ≤ N := bl_le_iff.2 (bd_man hB)
 refine fn_enter (u := 64) (fn := Tryz.f108) Tryz.func108 rfl Fub108_0 [.bool b0, .slice A0 n0 c0, .int .i64 x0, .int .i64 (p : Int), .bool up] (by kernel_rfl) rfl (fun a0 S0 r0 => ?_)
 refine wp_seq (rk Rub108_3 [] Fub108_1 Bub108_2 S0 r0 ?_)
 intro _ _ _ r1 S1
 refine wp_seq (rk Rub108_6 [.st 2 0 (d3 5)] Fub108_4 Bub108_7 S1 r1 ?_)
 intro _ _ r2 _
 refine (done_dy (h.below r2.first) hB hN).mono ?_
 rintro _ V1 ⟨v, rfl, h1, k1⟩
 obtain ⟨b1, A1, n1, c1, x1, rfl⟩ := h1.ex
 replace h1 := h1.lower r2.fs
 refine ⟨[.bool b1, .slice A1 n1 c1, .int .i64 x1], rfl, rfl, rfl, k1, ?_⟩
 obtain ⟨hb1, hx1, p1⟩ := h1.cells
 intro _ _ _ r3 S3
 refine wp_seq (rk Rub108_9 [] Fub108_8 Bub108_7 S3 r3 ?_)
 intro _ _ r4 _
 refine (len_d (p1.lat (r4.at_ 0 _ rfl)).c (by omega)).mono ?_
 rintro _ V2 ⟨rfl, k2⟩
 refine ⟨[.int .i64 (bl (cman z) : Int)], rfl, rfl, rfl, k2, ?_⟩
 intro _ _ _ r5 S5
 refine wp_seq ?_
 refine wp_seq (rk Rub108_11 [] Fub108_10 Bub108_7 S5 r5 ?_)
 intro _ _ _ r6 S6
 refine wp_cond_split (t := decide ((bl (cman z) : Int) ≤ (p : Int))) (S6.cnd (by kernel_rfl)) (fun q1 => ?_) (fun q1 => ?_)
 · have hle : bl (cman z) ≤ p := by have := of_decide_eq_true q1; omega
   have hshort : Short p (Dv z e) := ⟨_, _, Dv_form z e, by rw [sgn_abs]; exact Nat.le_of_lt (Nat.lt_of_lt_of_le (bl_le_iff.1 hle) (Nat.le_refl _))⟩
   refine wp_seq (rk Rub108_13 [.st 1 0 (d3 5)] Fub108_12 Bub108_14 S6 r6 ?_)
   intro _ g7 W7 r7 S7
   exact wp_ret (then_ret (ret_ok S7 [.agg #[.bool b1, .slice A1 n1 c1, .int .i64 x1]] (by kernel_rfl) (⟨_, _, rfl, ⟨z, e, (h1.lat (r7.at_ 0 _ rfl)), rfl, hB.more (by omega)⟩, CutOf.self (Rat.le_of_lt (ep_pos _)), hshort, CutX.few hle, r7.first⟩)))
 · have hlt : p < bl (cman z) := by have := of_decide_eq_false q1; omega
   obtain ⟨k, hk⟩ : ∃ k, bl (cman z) = p + k := ⟨bl (cman z) - p, by omega⟩
   have hkk : IntKind.i64.wrap ((bl (cman z) : Int) - (p : Int)) = (k : Int) := by rw [i64_id (by omega) (by omega)]; omega
   have h0 : z ≠ 0 := by rintro rfl; rw [cman_zero] at hlt; exact absurd hlt (by rw [bl_zero]; omega)
   have hlost := cman_lost h0 (k := k) (by omega)
   have hX : IntKind.i64.wrap (IntKind.i64.wrap (x1 + (bl (cman z) : Int)) - (p : Int)) = cexp z e + (k : Int) := by rw [hx1, i64_id (x := cexp z e + (bl (cman z) : Int)) (by omega) (by omega), i64_id (by omega) (by omega)]; omega
   refine wp_skip ?_
   refine wp_seq (rk Rub108_16 [] Fub108_15 Bub108_7 S6 r6 ?_)
   intro W7 g7 r7 _
   show Calls Tryz.prog 92 #[.slice A1 n1 c1, .int .i64 (IntKind.i64.wrap ((bl (cman z) : Int) - (p : Int)))] W7 _
   refine (shr_d _ k hkk (p1.lat (r7.at_ 0 _ rfl)).c (by omega) (by omega)).mono ?_
   rintro _ V3 ⟨v, rfl, h3, k3⟩
   rw [hlost]
   obtain ⟨A3, n3, c3, rfl⟩ := h3.ex
   replace h3 := h3.lower r7.fs
   refine ⟨[.slice A3 n3 c3, .bool true], rfl, rfl, rfl, k3, ?_⟩
   intro _ _ _ r8 S8
   refine wp_seq ?_
   refine wp_seq (rk Rub108_18 [] Fub108_17 Bub108_7 S8 r8 ?_)
   intro _ _ _ r9 S9
   refine wp_cond_split (t := if true then !(up == b1) else false) (S9.cnd (by kernel_rfl)) (fun q2 => ?_) (fun q2 => ?_)
   · have fin1 : ∀ v W, BL w W → PDy W w.heap.size v (sgn b1 (cman z / 2 ^ k + 1)) (IntKind.i64.wrap (IntKind.i64.wrap (x1 + (bl (cman z) : Int)) - (p : Int))) → _ := fun v W hW hv => (cut_fin hB h0 hp hk (by omega) (a := cman z / 2 ^ k + 1) (up := up) (by rw [if_pos (by rw [← hb1]; exact q2)]) (by omega) hW (by rw [hX, hb1] at hv; exact hv))
     refine rk Rub108_20 [.mv (vs 12)] Fub108_19 Bub108_7 S9 r9 ?_
     intro W10 g10 r10 _
     refine (of_d 1 (by decide) _).mono ?_
     rintro _ V4 ⟨v, rfl, h4, k4⟩
     obtain ⟨A4, n4, c4, rfl⟩ := h4.ex
     replace h4 := h4.lower r10.fs
     refine ⟨[.slice A4 n4 c4], rfl, rfl, rfl, k4, ?_⟩
     intro W11 g11 r11 _
     refine (add_d (h3.lat (r11.at_ 2 _ rfl)).c (h4.lat (r11.at_ 3 _ rfl)).c (by have := bl_div (d := 2 ^ k) hbl; omega) (by decide)).mono ?_
     rintro _ V5 ⟨v, rfl, h5, k5⟩
     obtain ⟨A5, n5, c5, rfl⟩ := h5.ex
     replace h5 := h5.lower r11.fs
     refine ⟨[.slice A5 n5 c5], rfl, rfl, rfl, k5, ?_⟩
     intro _ _ _ r12 S12
     refine wp_seq (rk Rub108_22 [.st 1 0 (d3 13)] Fub108_21 Bub108_23 S12 r12 ?_)
     intro W13 _ r13 _
     show Calls Tryz.prog 46 #[.bool b1, .slice A5 n5 c5, .int .i64 (IntKind.i64.wrap ((IntKind.i64.wrap (x1 + (bl (cman z) : Int))) - (p : Int)))] W13 _
     refine (form_d _ _ (h5.lat (r13.at_ 4 _ rfl)).c (by have := bl_div (d := 2 ^ k) hbl; have := bl_add (K := 4294967295) (a := cman z / 2 ^ k) (b := 1) (by omega) (by decide); omega) (by rw [hX]; omega) (by rw [hX]; omega)).mono ?_
     rintro _ V6 ⟨v, rfl, h6, k6⟩
     obtain ⟨b6, A6, n6, c6, x6, rfl⟩ := h6.ex
     replace h6 := h6.lower r13.fs
     refine ⟨[.bool b6, .slice A6 n6 c6, .int .i64 x6], rfl, rfl, rfl, k6, ?_⟩
     intro _ _ _ r14 S14
     exact rt S14 [.agg #[.bool b6, .slice A6 n6 c6, .int .i64 x6]] (fin1 _ _ r14.first (h6.lat (r14.at_ 5 _ rfl)))
   · have fin2 : ∀ v W, BL w W → PDy W w.heap.size v (sgn b1 (cman z / 2 ^ k)) (IntKind.i64.wrap (IntKind.i64.wrap (x1 + (bl (cman z) : Int)) - (p : Int))) → _ := fun v W hW hv => (cut_fin hB h0 hp hk (by omega) (a := cman z / 2 ^ k) (up := up) (by rw [if_neg (by rw [← hb1]; intro h9; rw [show (if true = true then !(up == b1) else false) = !(up == b1) from rfl] at q2; rw [h9] at q2; cases q2)]; rfl) (by omega) hW (by rw [hX, hb1] at hv; exact hv))
     refine wp_skip ?_
     refine wp_seq (rk Rub108_25 [.st 1 0 (d3 11)] Fub108_24 Bub108_26 S9 r9 ?_)
     intro W10 g10 r10 _
     show Calls Tryz.prog 46 #[.bool b1, .slice A3 n3 c3, .int .i64 (IntKind.i64.wrap ((IntKind.i64.wrap (x1 + (bl (cman z) : Int))) - (p : Int)))] W10 _
     refine (form_d _ _ (h3.lat (r10.at_ 2 _ rfl)).c (by have := bl_div (d := 2 ^ k) hbl; omega) (by rw [hX]; omega) (by rw [hX]; omega)).mono ?_
     rintro _ V7 ⟨v, rfl, h7, k7⟩
     obtain ⟨b7, A7, n7, c7, x7, rfl⟩ := h7.ex
     replace h7 := h7.lower r10.fs
     refine ⟨[.bool b7, .slice A7 n7 c7, .int .i64 x7], rfl, rfl, rfl, k7, ?_⟩
     intro _ g11 W11 r11 S11
     exact rt S11 [.agg #[.bool b7, .slice A7 n7 c7, .int .i64 x7]] (fin2 _ _ r11.first (h7.lat (r11.at_ 3 _ rfl)))
theorem dtrim_q {v : Value} {q : Rat} {N p : Nat} {up : Bool} {w : World} (h : CQ w v q N) (hN : N ≤ 67108864) (hp : 1 ≤ p) (hp2 : p ≤ 67108864) (hT : TB w) :
 Calls Tryz.prog 108 #[v, .int .i64 (p : Int), .bool up] w fun en w' => ∃ v' c, en = .returned v' ∧ PQ w' w.heap.size v' c (N + 1) ∧ CutOf up q c (ep p) ∧ Short p c ∧ BL w w' := by
 refine (dtrim_x h hN hp hp2 hT).mono ?_
 rintro en w' ⟨v, c, h1, h2, h3, h4, _, h5⟩
 exact ⟨v, c, h1, h2, h3, h4, h5⟩
end Go.Proofs.YtkdicconchobfaaGreatDoor
