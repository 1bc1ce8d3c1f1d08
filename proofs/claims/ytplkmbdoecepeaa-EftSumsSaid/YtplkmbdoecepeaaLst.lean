/- Lists of floats: the walks of kept, Grow, Sum, Scale, Sign and of the document's own. -/
import Derived.Test.YtplkmbdoecepeaaFlo
import Derived.Test.YtplkmbdoecepeaaEftLists
namespace Go.Proofs.Ytplkmbdoecepeaa
open Go.RowKit Go.Proofs.YtplkmbdoecepeaaW.PrintWords EftPure
set_option linter.unusedVariables false
set_option linter.unusedSimpArgs false

/-- A float in one cell. -/
def kF : Kd Nat := Kd.scalar (fun b => .float .f64 b) (fun _ => rfl)
theorem info_float : (Try.prog.info? 22).map (fun i => (i.zero, i.size, i.bytes)) = some (some (.float .f64 0), 1, 8) := by kernel_rfl

set_option maxHeartbeats 1000000 in
theorem kept_any (base : Nat) (v : Value) (xs : List Nat) (x g : Nat) (w0 w : World) (HO0 : kF.R 22 w base (fun _ => True) v xs) (HB0 : Below base w0 w) (hbase : base ≤ w.heap.size)
    (hx : w.cell? ⟨g, 0, none⟩ = some (.float .f64 x)) (hl : (xs.length + 1) * 8 ≤ 140737488355328) :
    Calls Try.prog 49 #[v, .slice (some ⟨g, 0, none⟩) 1 1] w fun e w' => ∃ v', e = .returned v' ∧ kF.R 22 w' base (fun _ => True) v' (keptL xs x) ∧ Below base w0 w' ∧ w.heap.size ≤ w'.heap.size := by
  have HO := Aside0.mk HO0
  have HB := Aside0.mk HB0
  clear HO0 HB0
  have hx' : w.cell? ((⟨g, 0, none⟩ : Addr).add 0) = some (.float .f64 x) := by rw [add_plain]; exact hx
  cases hz : nz x
  · have hz1 : (FloatKind.f64.format.order x 0 != some .eq) = false := hz
    have hK : keptL xs x = xs := by unfold keptL; rw [hz]; rfl
    rw [hK]
    clear hz hK
    go_enter Try.func49, Try.ntmps49
    go_wp2
    refine wp_loop_rounds 2 ?_
    rw [rounds_succ]
    go_wp2
    rw [rounds_succ]
    go_wp2
    go_ret
    exact ⟨_, rfl, HO.out, HB.out, Nat.le_refl _⟩
  · have hz1 : (FloatKind.f64.format.order x 0 != some .eq) = true := hz
    have hK : keptL xs x = xs ++ [x] := by unfold keptL; rw [hz]; rfl
    rw [hK]
    clear hz hK
    have HL := Aside0.mk hl
    clear hl
    go_enter Try.func49, Try.ntmps49
    go_wp2
    refine wp_loop_rounds 2 ?_
    rw [rounds_succ]
    go_wp2_with ((with_reducible refine gate_builtin (b := .append) (xs := #[.tmp 15, .tmp 17]) rfl ?_); at_builtin; go_must (refine Kd.R_append kF (w0 := w0) base rfl (.tmp 15) (.tmp 17) 40 22 (.float .f64 0) 8 rfl Try.underlying40 info_float rfl (by decide) (by omega) v xs x [.float .f64 x] (fun _ => True) (fun _ => False) rfl rfl ?aP (fun _ hk => hk.elim) ?aF ?aO ?aB ?aS ?aL ?_; (case aP => exact rfl); (case aB => exact HB.out); (case aF => exact fun _ _ => trivial); (case aO => exact HO.out); (case aS => exact hbase); (case aL => have := HL.out; omega); intro v1 w1 ho hb hg hat; have H1 := Aside0.mk ho; have H2 := Aside0.mk hb; have H3 := Aside0.mk (hg.size); clear ho hb hg hat))
    rw [rounds_succ]
    go_wp2
    go_ret
    exact ⟨_, rfl, H1.out, H2.out, H3.out⟩

theorem cell_new1 (W : World) (v : Value) (e : TypeId) {g : Nat} (hg : g = W.heap.size) : (W.alloc (.cells #[v] e)).cell? ⟨g, 0, none⟩ = some v := by
  subst hg
  simp [go_sem]

theorem at_float {w : World} {A : Option Addr} {n : Nat} {xs : List Nat} (h : kF.C w A n xs) (hn : xs.length = n) (i : Nat) (hi : i < n) : ∃ ad x, A = some ad ∧ xs[i]? = some x ∧ w.cell? (ad.add i) = some (.float .f64 x) := by
  obtain ⟨ad, c, e, _, hK, hc0⟩ := Kd.C_get h 0 (i : Int) (by omega) (by omega)
  refine ⟨ad, xs.getD i 0, e, by rw [List.getD_eq_getElem?_getD, List.getElem?_eq_getElem (by omega)]; rfl, ?_⟩
  have hc : c = [.float .f64 (xs.getD ((i : Int)).toNat 0)] := hK
  have := hc0 0 (.float .f64 (xs.getD ((i : Int)).toNat 0)) (by rw [hc]; rfl)
  simpa [kF, Kd.scalar] using this

set_option maxHeartbeats 1000000 in
theorem grow_any (l : List Nat) (A : Option Addr) (c b : Nat) (w : World) (hr : kF.C w A l.length l) (hc : l.length ≤ c) (hl : (l.length + 1) * 8 ≤ 140737488355328) :
    Calls Try.prog 27 #[.slice A l.length c, .float .f64 b] w fun e w' => ∃ v out, e = .returned v ∧ GrowR l b [] out ∧ kF.R 22 w' w.heap.size (fun _ => True) v out ∧ Below w.heap.size w w' := by
  have HR := Aside0.mk hr
  have HL := Aside0.mk hl
  have hm : l.length ≤ 9223372036854775807 := by omega
  clear hr hl
  go_enter Try.func27, Try.ntmps27
  go_wp2
  go_loopw [5, 6, 13] (fun v5 v6 i wr => ∃ (k q : Nat) (acc : List Nat), i = .int .i64 k ∧ v6 = .float .f64 q ∧ k ≤ l.length ∧ Aside0 (Grown_ l b k q acc) ∧ Aside0 (kF.R 22 wr w.heap.size (fun _ => True) v5 acc) ∧ Aside0 (Below w.heap.size w wr)) (fun _ _ i _ => l.length - (intOf i).toNat)
  case atStart => exact ⟨0, b, [], rfl, rfl, Nat.zero_le _, ⟨⟨Nat.le_refl _, fun _ h => h⟩⟩, ⟨Kd.R_nil _ _ _ _ _⟩, ⟨Below.refl _ _⟩⟩
  case round =>
    obtain ⟨k, q, acc, rfl, rfl, hk, HG, HO, HB⟩ := hrel
    by_cases hlt : k < l.length
    · obtain ⟨ad, x, rfl, hx0, hcell0⟩ := at_float HR.out rfl k hlt
      have hx := Aside0.mk hx0
      have hcell := pw_cell_below HB.out hcell0
      clear hcell0 hx0
      go_wp2_with (first | (go_at_call 11; refine (two_sum _ _ _).mono ?_; rintro e w' ⟨s, t, n, rfl, hh_, rfl⟩; have HT := Aside0.mk hh_; clear hh_) | (go_at_call 49; go_must (have HSZ := (below_alloc (pw_below_drewN HB.out n) (.cells #[.float .f64 t] 22)).size; have HSE : wr.heap.size = (wr.drewN n).heap.size := rfl; refine (kept_any w.heap.size u5 acc t wr.heap.size w _ (Kd.R_alloc (Kd.R_drewN HO.out _) _) (below_alloc (pw_below_drewN HB.out _) _) ?hs ?hx ?hl).mono ?_; (case hs => exact HSZ); (case hx => exact cell_new1 _ _ _ HSE); (case hl => have := HG.out.1; have := HL.out; omega); rintro e w' ⟨v', rfl, ho, hb, _⟩; have HO' := Aside0.mk ho; have HB' := Aside0.mk hb; clear ho hb HSZ HSE)))
      go_roundw
      case rel => exact ⟨k + 1, s, _, by go_num, rfl, by omega, ⟨HG.out.step hx.out HT.out⟩, HO', HB'⟩
      case measure => simp [intOf]; omega
    · obtain rfl : k = l.length := by omega
      go_wp2_with (go_at_call 49; go_must (have HSZ := (below_alloc HB.out (.cells #[.float .f64 q] 22)).size; have HSE : wr.heap.size = wr.heap.size := rfl; refine (kept_any w.heap.size u5 acc q wr.heap.size w _ (Kd.R_alloc HO.out _) (below_alloc HB.out _) ?hs ?hx ?hl).mono ?_; (case hs => exact HSZ); (case hx => exact cell_new1 _ _ _ HSE); (case hl => have := HG.out.1; have := HL.out; omega); rintro e w' ⟨v', rfl, ho, hb, _⟩; have HO' := Aside0.mk ho; have HB' := Aside0.mk hb; clear ho hb HSZ HSE))
      go_ret
      exact ⟨_, _, rfl, HG.out.done, HO'.out, HB'.out⟩

set_option maxHeartbeats 1000000 in
theorem sum_any (l : List Nat) (A : Option Addr) (c : Nat) (w : World) (hr : kF.C w A l.length l) (hc : l.length ≤ c) (hl : (l.length + 1) * 8 ≤ 140737488355328) :
    Calls Try.prog 28 #[.slice A l.length c] w fun e w' => ∃ v out, e = .returned v ∧ SumR l [] out ∧ out.length ≤ l.length ∧ kF.R 22 w' w.heap.size (fun _ => True) v out ∧ Below w.heap.size w w' := by
  have HR := Aside0.mk hr
  have HL := Aside0.mk hl
  have hm : l.length ≤ 9223372036854775807 := by omega
  clear hr hl
  go_enter Try.func28, Try.ntmps28
  go_wp2
  go_loopw [3, 8] (fun v3 i wr => ∃ (k : Nat) (acc : List Nat), i = .int .i64 k ∧ k ≤ l.length ∧ Aside0 (Summed l k acc) ∧ Aside0 (kF.R 22 wr w.heap.size (fun _ => True) v3 acc) ∧ Aside0 (Below w.heap.size w wr)) (fun _ i _ => l.length - (intOf i).toNat)
  case atStart => exact ⟨0, [], rfl, Nat.zero_le _, ⟨⟨Nat.le_refl _, fun _ h => h⟩⟩, ⟨Kd.R_nil _ _ _ _ _⟩, ⟨Below.refl _ _⟩⟩
  case round =>
    obtain ⟨k, acc, rfl, hk, HG, HO, HB⟩ := hrel
    by_cases hlt : k < l.length
    · obtain ⟨ad, x, rfl, hx0, hcell0⟩ := at_float HR.out rfl k hlt
      have hx := Aside0.mk hx0
      have hcell := pw_cell_below HB.out hcell0
      clear hcell0 hx0
      obtain ⟨Ao, co, rfl, hco0, hC0⟩ := Kd.R_reads HO.out
      have hco := Aside0.mk hco0
      have hC := Aside0.mk hC0
      clear hco0 hC0
      go_wp2_with (go_at_call 27; go_must (refine (grow_any acc Ao co x _ hC.out hco.out ?hl).mono ?_; (case hl => have := HG.out.1; have := HL.out; omega); rintro e w' ⟨v', out, rfl, hgr, ho, hb⟩; have HG' := Aside0.mk hgr; have HO' := Aside0.mk (Kd.R_lower ho HB.out.size); have HB' := Aside0.mk (below_then HB.out HB.out.size hb); clear hgr ho hb))
      go_roundw
      case rel => exact ⟨k + 1, _, by go_num, by omega, ⟨HG.out.step hx.out HG'.out⟩, HO', HB'⟩
      case measure => simp [intOf]; omega
    · obtain rfl : k = l.length := by omega
      go_wp2
      go_ret
      exact ⟨_, _, rfl, HG.out.done, HG.out.1, HO.out, HB.out⟩

set_option maxHeartbeats 1000000 in
theorem grow_ref (l : List Nat) (A : Option Addr) (c b : Nat) (w : World) (hr : kF.C w A l.length l) (hc : l.length ≤ c) (hl : (l.length + 1) * 8 ≤ 140737488355328) :
    Calls Try.prog 34 #[.slice A l.length c, .float .f64 b] w fun e w' => ∃ v out, e = .returned v ∧ GrowR l b [] out ∧ kF.R 22 w' w.heap.size (fun _ => True) v out ∧ Below w.heap.size w w' := by
  have HR := Aside0.mk hr
  have HL := Aside0.mk hl
  have hm : l.length ≤ 9223372036854775807 := by omega
  clear hr hl
  go_enter Try.func34, Try.ntmps34
  go_wp2
  go_loopw [5, 6, 14] (fun v5 v6 i wr => ∃ (k q : Nat) (acc : List Nat), i = .int .i64 k ∧ v6 = .float .f64 q ∧ k ≤ l.length ∧ Aside0 (Grown_ l b k q acc) ∧ Aside0 (kF.R 22 wr w.heap.size (fun _ => True) v5 acc) ∧ Aside0 (Below w.heap.size w wr)) (fun _ _ i _ => l.length - (intOf i).toNat)
  case atStart => exact ⟨0, b, [], rfl, rfl, Nat.zero_le _, ⟨⟨Nat.le_refl _, fun _ h => h⟩⟩, ⟨Kd.R_nil _ _ _ _ _⟩, ⟨Below.refl _ _⟩⟩
  case round =>
    obtain ⟨k, q, acc, rfl, rfl, hk, HG, HO, HB⟩ := hrel
    by_cases hlt : k < l.length
    · obtain ⟨ad, x, rfl, hx0, hcell0⟩ := at_float HR.out rfl k hlt
      have hx := Aside0.mk hx0
      have hcell := pw_cell_below HB.out hcell0
      clear hcell0 hx0
      go_wp2_with (first | (go_at_call 19; refine (two_sum_ref _ _ _).mono ?_; rintro e w' ⟨s, t, n, rfl, hh_, rfl⟩; have HT := Aside0.mk hh_; clear hh_) | (at_builtin; go_must (refine Kd.R_append kF (w0 := w) w.heap.size rfl (.tmp 27) (.tmp 29) 40 22 (.float .f64 0) 8 rfl Try.underlying40 info_float rfl (by decide) (by omega) u5 acc t [.float .f64 t] (fun _ => True) (fun _ => False) rfl rfl ?aP (fun _ hk => hk.elim) ?aF ?aO ?aB ?aS ?aL ?_; (case aP => exact rfl); (case aF => exact fun _ _ => trivial); (case aO => exact Kd.R_drewN HO.out n); (case aB => exact (pw_below_drewN HB.out n)); (case aS => exact (pw_below_drewN HB.out n).size); (case aL => have := HG.out.1; have := HL.out; omega); intro v1 w1 ho hb _ _; have HO' := Aside0.mk ho; have HB' := Aside0.mk hb; clear ho hb)))
      · have hz : nz t = true := by assumption
        have HK : keptL acc t = acc ++ [t] := by unfold keptL; rw [hz]; rfl
        have HS := HG.out.step hx.out HT.out
        rw [HK] at HS
        clear hz HK
        go_roundw
        case rel => exact ⟨k + 1, s, _, by go_num, rfl, by omega, ⟨HS⟩, HO', HB'⟩
        case measure => simp [intOf]; omega
      · have hz : nz t = false := by assumption
        have HK : keptL acc t = acc := by unfold keptL; rw [hz]; rfl
        have HS := HG.out.step hx.out HT.out
        rw [HK] at HS
        clear hz HK
        go_roundw
        case rel => exact ⟨k + 1, s, acc, by go_num, rfl, by omega, ⟨HS⟩, ⟨Kd.R_drewN HO.out n⟩, ⟨pw_below_drewN HB.out n⟩⟩
        case measure => simp [intOf]; omega
    · obtain rfl : k = l.length := by omega
      cases hz : nz q
      · have hz1 : (FloatKind.f64.format.order q 0 != some .eq) = false := hz
        have HK := Aside0.mk (show keptL acc q = acc by unfold keptL; rw [hz]; rfl)
        clear hz
        go_wp2
        go_ret
        exact ⟨_, _, rfl, HG.out.done, by rw [HK.out]; exact HO.out, HB.out⟩
      · have hz1 : (FloatKind.f64.format.order q 0 != some .eq) = true := hz
        have HK := Aside0.mk (show keptL acc q = acc ++ [q] by unfold keptL; rw [hz]; rfl)
        clear hz
        go_wp2_with (at_builtin; go_must (refine Kd.R_append kF (w0 := w) w.heap.size rfl (.tmp 34) (.tmp 36) 40 22 (.float .f64 0) 8 rfl Try.underlying40 info_float rfl (by decide) (by omega) u5 acc q [.float .f64 q] (fun _ => True) (fun _ => False) rfl rfl ?aP (fun _ hk => hk.elim) ?aF ?aO ?aB ?aS ?aL ?_; (case aP => exact rfl); (case aF => exact fun _ _ => trivial); (case aO => exact HO.out); (case aB => exact HB.out); (case aS => exact HB.out.size); (case aL => have := HG.out.1; have := HL.out; omega); intro v1 w1 ho hb _ _; have HO' := Aside0.mk ho; have HB' := Aside0.mk hb; clear ho hb))
        go_ret
        exact ⟨_, _, rfl, HG.out.done, by rw [HK.out]; exact HO'.out, HB'.out⟩
set_option maxHeartbeats 1000000 in
theorem sum_ref (l : List Nat) (A : Option Addr) (c : Nat) (w : World) (hr : kF.C w A l.length l) (hc : l.length ≤ c) (hl : (l.length + 1) * 8 ≤ 140737488355328) :
    Calls Try.prog 32 #[.slice A l.length c] w fun e w' => ∃ v out, e = .returned v ∧ SumR l [] out ∧ out.length ≤ l.length ∧ kF.R 22 w' w.heap.size (fun _ => True) v out ∧ Below w.heap.size w w' := by
  have HR := Aside0.mk hr
  have HL := Aside0.mk hl
  have hm : l.length ≤ 9223372036854775807 := by omega
  clear hr hl
  go_enter Try.func32, Try.ntmps32
  go_wp2
  go_loopw [3, 8] (fun v3 i wr => ∃ (k : Nat) (acc : List Nat), i = .int .i64 k ∧ k ≤ l.length ∧ Aside0 (Summed l k acc) ∧ Aside0 (kF.R 22 wr w.heap.size (fun _ => True) v3 acc) ∧ Aside0 (Below w.heap.size w wr)) (fun _ i _ => l.length - (intOf i).toNat)
  case atStart => exact ⟨0, [], rfl, Nat.zero_le _, ⟨⟨Nat.le_refl _, fun _ h => h⟩⟩, ⟨Kd.R_nil _ _ _ _ _⟩, ⟨Below.refl _ _⟩⟩
  case round =>
    obtain ⟨k, acc, rfl, hk, HG, HO, HB⟩ := hrel
    by_cases hlt : k < l.length
    · obtain ⟨ad, x, rfl, hx0, hcell0⟩ := at_float HR.out rfl k hlt
      have hx := Aside0.mk hx0
      have hcell := pw_cell_below HB.out hcell0
      clear hcell0 hx0
      obtain ⟨Ao, co, rfl, hco0, hC0⟩ := Kd.R_reads HO.out
      have hco := Aside0.mk hco0
      have hC := Aside0.mk hC0
      clear hco0 hC0
      go_wp2_with (go_at_call 34; go_must (refine (grow_ref acc Ao co x _ hC.out hco.out ?hl).mono ?_; (case hl => have := HG.out.1; have := HL.out; omega); rintro e w' ⟨v', out, rfl, hgr, ho, hb⟩; have HG' := Aside0.mk hgr; have HO' := Aside0.mk (Kd.R_lower ho HB.out.size); have HB' := Aside0.mk (below_then HB.out HB.out.size hb); clear hgr ho hb))
      go_roundw
      case rel => exact ⟨k + 1, _, by go_num, by omega, ⟨HG.out.step hx.out HG'.out⟩, HO', HB'⟩
      case measure => simp [intOf]; omega
    · obtain rfl : k = l.length := by omega
      go_wp2
      go_ret
      exact ⟨_, _, rfl, HG.out.done, HG.out.1, HO.out, HB.out⟩

set_option maxHeartbeats 1000000 in
theorem scale_ref (l : List Nat) (A : Option Addr) (c b : Nat) (w : World) (hr : kF.C w A l.length l) (hc : l.length ≤ c) (hl : (2 * l.length + 1) * 8 ≤ 140737488355328) :
    Calls Try.prog 36 #[.slice A l.length c, .float .f64 b] w fun e w' => ∃ v out, e = .returned v ∧ ScaleR b l [] out ∧ kF.R 22 w' w.heap.size (fun _ => True) v out ∧ Below w.heap.size w w' := by
  have HR := Aside0.mk hr
  have HL := Aside0.mk hl
  have hm : l.length ≤ 9223372036854775807 := by omega
  clear hr hl
  go_enter Try.func36, Try.ntmps36
  go_wp2
  go_loopw [5, 12] (fun v5 i wr => ∃ (k : Nat) (acc : List Nat), i = .int .i64 k ∧ k ≤ l.length ∧ Aside0 (Scaled b l k acc) ∧ Aside0 (kF.R 22 wr w.heap.size (fun _ => True) v5 acc) ∧ Aside0 (Below w.heap.size w wr)) (fun _ i _ => l.length - (intOf i).toNat)
  case atStart => exact ⟨0, [], rfl, Nat.zero_le _, ⟨⟨Nat.le_refl _, fun _ h => h⟩⟩, ⟨Kd.R_nil _ _ _ _ _⟩, ⟨Below.refl _ _⟩⟩
  case round =>
    obtain ⟨k, acc, rfl, hk, HG, HO, HB⟩ := hrel
    by_cases hlt : k < l.length
    · obtain ⟨ad, x, rfl, hx0, hcell0⟩ := at_float HR.out rfl k hlt
      have hx := Aside0.mk hx0
      have hcell := pw_cell_below HB.out hcell0
      clear hcell0 hx0
      obtain ⟨Ao, co, rfl, hco0, hC0⟩ := Kd.R_reads HO.out
      have hco := Aside0.mk hco0
      have hC := Aside0.mk hC0
      clear hco0 hC0
      go_wp2_with (first | (go_at_call 22; refine (two_prod_ref _ _ _).mono ?_; rintro e w' ⟨p, e, n, rfl, hh_, rfl⟩; have HT := Aside0.mk hh_; clear hh_) | (go_at_call 34; (have tok := HT1.out; clear tok); go_must (obtain ⟨A1, c1, rfl, hc1, hC1⟩ := Kd.R_reads HO1.out; refine (grow_ref m1 A1 c1 p _ hC1 hc1 ?hl).mono ?_; (case hl => have := HG1.out.len; have := HG.out.1; have := HL.out; simp at *; omega); rintro e w' ⟨v', m2, rfl, hgr, ho, hb⟩; have HG2 := Aside0.mk hgr; have HO2 := Aside0.mk (Kd.R_lower ho HB1.out.size); have HB2 := Aside0.mk (below_then HB1.out HB1.out.size hb); clear hgr ho hb hc1 hC1)) | (go_at_call 34; go_must (refine (grow_ref acc Ao co e _ (Kd.C_drewN hC.out n) hco.out ?hl).mono ?_; (case hl => have := HG.out.1; have := HL.out; omega); rintro e' w' ⟨v', m1, rfl, hgr, ho, hb⟩; have HG1 := Aside0.mk hgr; have HO1 := Aside0.mk (Kd.R_lower ho (pw_below_drewN HB.out n).size); have HB1 := Aside0.mk (below_then (pw_below_drewN HB.out n) (pw_below_drewN HB.out n).size hb); have HT1 := Aside0.mk trivial; clear hgr ho hb)))
      go_roundw
      case rel => exact ⟨k + 1, m2, by go_num, by omega, ⟨HG.out.step hx.out HT.out HG1.out HG2.out⟩, HO2, HB2⟩
      case measure => simp [intOf]; omega
    · obtain rfl : k = l.length := by omega
      go_wp2
      go_ret
      exact ⟨_, _, rfl, HG.out.done, HO.out, HB.out⟩
set_option maxHeartbeats 1000000 in
theorem scale_any (l : List Nat) (A : Option Addr) (c b : Nat) (w : World) (hr : kF.C w A l.length l) (hc : l.length ≤ c) (hl : (2 * l.length + 1) * 8 ≤ 140737488355328) :
    Calls Try.prog 29 #[.slice A l.length c, .float .f64 b] w fun e w' => ∃ v out, e = .returned v ∧ ScaleR b l [] out ∧ kF.R 22 w' w.heap.size (fun _ => True) v out ∧ Below w.heap.size w w' := by
  have HR := Aside0.mk hr
  have HL := Aside0.mk hl
  have hm : l.length ≤ 9223372036854775807 := by omega
  clear hr hl
  have i0 : ∀ (x y : Nat) (w : World), (Instr.index 61 (.agg #[.float .f64 x, .float .f64 y]) (.int .i64 0)).run Try.prog w = .ok (.float .f64 x) w := fun _ _ _ => by kernel_rfl
  have i1 : ∀ (x y : Nat) (w : World), (Instr.index 61 (.agg #[.float .f64 x, .float .f64 y]) (.int .i64 1)).run Try.prog w = .ok (.float .f64 y) w := fun _ _ _ => by kernel_rfl
  go_enter Try.func29, Try.ntmps29
  go_wp2
  go_loopw [5, 14] (fun v5 i wr => ∃ (k : Nat) (acc : List Nat), i = .int .i64 k ∧ k ≤ l.length ∧ Aside0 (Scaled b l k acc) ∧ Aside0 (kF.R 22 wr w.heap.size (fun _ => True) v5 acc) ∧ Aside0 (Below w.heap.size w wr)) (fun _ i _ => l.length - (intOf i).toNat)
  case atStart => exact ⟨0, [], rfl, Nat.zero_le _, ⟨⟨Nat.le_refl _, fun _ h => h⟩⟩, ⟨Kd.R_nil _ _ _ _ _⟩, ⟨Below.refl _ _⟩⟩
  case round =>
    obtain ⟨k, acc, rfl, hk, HG, HO, HB⟩ := hrel
    by_cases hlt : k < l.length
    · obtain ⟨ad, x, rfl, hx0, hcell0⟩ := at_float HR.out rfl k hlt
      have hx := Aside0.mk hx0
      have hcell := pw_cell_below HB.out hcell0
      clear hcell0 hx0
      obtain ⟨Ao, co, rfl, hco0, hC0⟩ := Kd.R_reads HO.out
      have hco := Aside0.mk hco0
      have hC := Aside0.mk hC0
      clear hco0 hC0
      go_wp2_with (first | (go_at_call 12; refine (two_prod _ _ _).mono ?_; rintro e w' ⟨p, e, n, rfl, hh_, rfl⟩; have HT := Aside0.mk hh_; clear hh_) | (go_at_call 27; (have tok := HT1.out; clear tok); go_must (obtain ⟨A1, c1, rfl, hc1, hC1⟩ := Kd.R_reads HO1.out; refine (grow_any m1 A1 c1 p _ hC1 hc1 ?hl).mono ?_; (case hl => have := HG1.out.len; have := HG.out.1; have := HL.out; simp at *; omega); rintro e w' ⟨v', m2, rfl, hgr, ho, hb⟩; have HG2 := Aside0.mk hgr; have HO2 := Aside0.mk (Kd.R_lower ho HB1.out.size); have HB2 := Aside0.mk (below_then HB1.out HB1.out.size hb); clear hgr ho hb hc1 hC1)) | (go_at_call 27; go_must (refine (grow_any acc Ao co e _ (Kd.C_drewN hC.out n) hco.out ?hl).mono ?_; (case hl => have := HG.out.1; have := HL.out; omega); rintro e' w' ⟨v', m1, rfl, hgr, ho, hb⟩; have HG1 := Aside0.mk hgr; have HO1 := Aside0.mk (Kd.R_lower ho (pw_below_drewN HB.out n).size); have HB1 := Aside0.mk (below_then (pw_below_drewN HB.out n) (pw_below_drewN HB.out n).size hb); have HT1 := Aside0.mk trivial; clear hgr ho hb)))
      refine wp_loop_rounds 3 ?_
      rw [rounds_succ]
      go_wp2_with (first | (go_at_call 12; refine (two_prod _ _ _).mono ?_; rintro e w' ⟨p, e, n, rfl, hh_, rfl⟩; have HT := Aside0.mk hh_; clear hh_) | (go_at_call 27; (have tok := HT1.out; clear tok); go_must (obtain ⟨A1, c1, rfl, hc1, hC1⟩ := Kd.R_reads HO1.out; refine (grow_any m1 A1 c1 p _ hC1 hc1 ?hl).mono ?_; (case hl => have := HG1.out.len; have := HG.out.1; have := HL.out; simp at *; omega); rintro e w' ⟨v', m2, rfl, hgr, ho, hb⟩; have HG2 := Aside0.mk hgr; have HO2 := Aside0.mk (Kd.R_lower ho HB1.out.size); have HB2 := Aside0.mk (below_then HB1.out HB1.out.size hb); clear hgr ho hb hc1 hC1)) | (go_at_call 27; go_must (refine (grow_any acc Ao co e _ (Kd.C_drewN hC.out n) hco.out ?hl).mono ?_; (case hl => have := HG.out.1; have := HL.out; omega); rintro e' w' ⟨v', m1, rfl, hgr, ho, hb⟩; have HG1 := Aside0.mk hgr; have HO1 := Aside0.mk (Kd.R_lower ho (pw_below_drewN HB.out n).size); have HB1 := Aside0.mk (below_then (pw_below_drewN HB.out n) (pw_below_drewN HB.out n).size hb); have HT1 := Aside0.mk trivial; clear hgr ho hb)))
      rw [rounds_succ]
      go_wp2_with (first | (go_at_call 12; refine (two_prod _ _ _).mono ?_; rintro e w' ⟨p, e, n, rfl, hh_, rfl⟩; have HT := Aside0.mk hh_; clear hh_) | (go_at_call 27; (have tok := HT1.out; clear tok); go_must (obtain ⟨A1, c1, rfl, hc1, hC1⟩ := Kd.R_reads HO1.out; refine (grow_any m1 A1 c1 p _ hC1 hc1 ?hl).mono ?_; (case hl => have := HG1.out.len; have := HG.out.1; have := HL.out; simp at *; omega); rintro e w' ⟨v', m2, rfl, hgr, ho, hb⟩; have HG2 := Aside0.mk hgr; have HO2 := Aside0.mk (Kd.R_lower ho HB1.out.size); have HB2 := Aside0.mk (below_then HB1.out HB1.out.size hb); clear hgr ho hb hc1 hC1)) | (go_at_call 27; go_must (refine (grow_any acc Ao co e _ (Kd.C_drewN hC.out n) hco.out ?hl).mono ?_; (case hl => have := HG.out.1; have := HL.out; omega); rintro e' w' ⟨v', m1, rfl, hgr, ho, hb⟩; have HG1 := Aside0.mk hgr; have HO1 := Aside0.mk (Kd.R_lower ho (pw_below_drewN HB.out n).size); have HB1 := Aside0.mk (below_then (pw_below_drewN HB.out n) (pw_below_drewN HB.out n).size hb); have HT1 := Aside0.mk trivial; clear hgr ho hb)))
      rw [rounds_succ]
      go_wp2_with (first | (go_at_call 12; refine (two_prod _ _ _).mono ?_; rintro e w' ⟨p, e, n, rfl, hh_, rfl⟩; have HT := Aside0.mk hh_; clear hh_) | (go_at_call 27; (have tok := HT1.out; clear tok); go_must (obtain ⟨A1, c1, rfl, hc1, hC1⟩ := Kd.R_reads HO1.out; refine (grow_any m1 A1 c1 p _ hC1 hc1 ?hl).mono ?_; (case hl => have := HG1.out.len; have := HG.out.1; have := HL.out; simp at *; omega); rintro e w' ⟨v', m2, rfl, hgr, ho, hb⟩; have HG2 := Aside0.mk hgr; have HO2 := Aside0.mk (Kd.R_lower ho HB1.out.size); have HB2 := Aside0.mk (below_then HB1.out HB1.out.size hb); clear hgr ho hb hc1 hC1)) | (go_at_call 27; go_must (refine (grow_any acc Ao co e _ (Kd.C_drewN hC.out n) hco.out ?hl).mono ?_; (case hl => have := HG.out.1; have := HL.out; omega); rintro e' w' ⟨v', m1, rfl, hgr, ho, hb⟩; have HG1 := Aside0.mk hgr; have HO1 := Aside0.mk (Kd.R_lower ho (pw_below_drewN HB.out n).size); have HB1 := Aside0.mk (below_then (pw_below_drewN HB.out n) (pw_below_drewN HB.out n).size hb); have HT1 := Aside0.mk trivial; clear hgr ho hb)))
      go_roundw
      case rel => exact ⟨k + 1, m2, by go_num, by omega, ⟨HG.out.step hx.out HT.out HG1.out HG2.out⟩, HO2, HB2⟩
      case measure => simp [intOf]; omega
    · obtain rfl : k = l.length := by omega
      go_wp2
      go_ret
      exact ⟨_, _, rfl, HG.out.done, HO.out, HB.out⟩

theorem ret_int {k : IntKind} {a b : Int} (h : a = b) : Ending.returned (.int k a) = .returned (.int k b) := by rw [h]

set_option maxHeartbeats 1000000 in
theorem sign_any (l : List Nat) (A : Option Addr) (c : Nat) (w : World) (hr : kF.C w A l.length l) (hc : l.length ≤ c) (hm : l.length ≤ 9223372036854775807) :
    Calls Try.prog 30 #[.slice A l.length c] w fun e w' => e = .returned (.int .i64 (signL l)) ∧ ∃ n, w' = w.drewN n := by
  have HR := Aside0.mk hr
  clear hr
  by_cases h0 : l = []
  · subst h0
    go_enter Try.func30, Try.ntmps30
    go_wp2
    repeat (go_quiet (fail); try go_wp2)
    go_ret
    exact ⟨rfl, ⟨0, rfl⟩⟩
  · have hp : 0 < l.length := List.length_pos_iff.2 h0
    have hne : ((l.length : Int) == 0) = false := by simp; exact h0
    have hne2 : (l.length == 0) = false := by simp; exact h0
    obtain ⟨ad, x, rfl, hx0, hcell⟩ := at_float HR.out rfl (l.length - 1) (by omega)
    have hx := Aside0.mk hx0
    have hti : IntKind.i64.wrap ((l.length : Int) - 1) = (l.length : Int) - 1 := by unfold IntKind.wrap; simp [IntKind.bits, IntKind.signed]; omega
    have htn : ((l.length : Int) - 1).toNat = l.length - 1 := by omega
    have hge : 0 ≤ (l.length : Int) - 1 := by omega
    have hgl : (l.length : Int) - 1 < l.length := by omega
    clear hx0
    have HS := Aside0.mk (show signL l = _ by unfold signL; rw [last_of hx.out])
    cases hlt : (FloatKind.f64.format.order x 0 == some .lt)
    · cases hgt : (FloatKind.f64.format.order x 0 == some .gt)
      · go_enter Try.func30, Try.ntmps30
        go_wp2
        go_ret
        exact ⟨by rw [HS.out]; simp [hlt, hgt], ⟨0, rfl⟩⟩
      · go_enter Try.func30, Try.ntmps30
        go_wp2
        go_ret
        exact ⟨by rw [HS.out]; simp [hlt, hgt], ⟨0, rfl⟩⟩
    · go_enter Try.func30, Try.ntmps30
      go_wp2
      go_ret
      exact ⟨by rw [HS.out]; simp [hlt], ⟨0, rfl⟩⟩
set_option maxHeartbeats 1000000 in
theorem sign_law (l : List Nat) (A : Option Addr) (c : Nat) (w : World) (hr : kF.C w A l.length l) (hc : l.length ≤ c) (hm : l.length ≤ 9223372036854775807) :
    Calls Try.prog 35 #[.slice A l.length c] w fun e w' => e = .returned (.int .i64 (signL' l)) ∧ ∃ n, w' = w.drewN n := by
  have HR := Aside0.mk hr
  clear hr
  by_cases h0 : l = []
  · subst h0
    go_enter Try.func35, Try.ntmps35
    go_wp2
    repeat (go_quiet (fail); try go_wp2)
    go_ret
    exact ⟨rfl, ⟨0, rfl⟩⟩
  · have hp : 0 < l.length := List.length_pos_iff.2 h0
    have hne : ((l.length : Int) == 0) = false := by simp; exact h0
    have hne2 : (l.length == 0) = false := by simp; exact h0
    obtain ⟨ad, x, rfl, hx0, hcell⟩ := at_float HR.out rfl (l.length - 1) (by omega)
    have hx := Aside0.mk hx0
    have hti : IntKind.i64.wrap ((l.length : Int) - 1) = (l.length : Int) - 1 := by unfold IntKind.wrap; simp [IntKind.bits, IntKind.signed]; omega
    have htn : ((l.length : Int) - 1).toNat = l.length - 1 := by omega
    have hge : 0 ≤ (l.length : Int) - 1 := by omega
    have hgl : (l.length : Int) - 1 < l.length := by omega
    clear hx0
    have HS := Aside0.mk (show signL' l = _ by unfold signL'; rw [last_of hx.out])
    cases hlt : (FloatKind.f64.format.order x 0 == some .lt)
    · go_enter Try.func35, Try.ntmps35
      go_wp2
      go_ret
      exact ⟨by rw [HS.out]; simp [hlt], ⟨0, rfl⟩⟩
    · go_enter Try.func35, Try.ntmps35
      go_wp2
      go_ret
      exact ⟨by rw [HS.out]; simp [hlt], ⟨0, rfl⟩⟩

set_option maxHeartbeats 1000000 in
theorem moderate_any (a : Nat) (w : World) :
    Calls Try.prog 10 #[.float .f64 a] w fun e w' => e = .returned (.bool (modB a)) ∧ ∃ n, w' = w.drewN n := by
  cases h1 : (FloatKind.f64.format.order a 0 == some .eq)
  · cases h2 : (FloatKind.f64.format.order a 0 == some .lt)
    · have HM := Aside0.mk (show modB a = inB a by unfold modB; rw [h1, h2]; rfl)
      go_enter Try.func10, Try.ntmps10
      go_wp2
      · go_ret
        exact ⟨by rw [HM.out]; rfl, ⟨0, rfl⟩⟩
      · rename_i hn
        go_ret
        exact ⟨by rw [HM.out, inB_false hn]; rfl, ⟨0, rfl⟩⟩
    · have HM := Aside0.mk (fun z (hz : FR .sub 0 a z) => mod_lt h1 h2 hz)
      go_enter Try.func10, Try.ntmps10
      go_wp2_with ((with_reducible refine gate_bin (op := .sub) (t := 22) rfl ?_); (refine fop_event _ rfl (by decide) rfl rfl rfl ?_); intro _ _ hh_; have _ := Aside0.mk hh_; clear hh_)
      · rename_i z n hz hn
        go_ret
        exact ⟨by rw [HM.out z hz.out]; rfl, ⟨n, rfl⟩⟩
      · rename_i z n hz hn
        go_ret
        exact ⟨by rw [HM.out z hz.out, inB_false hn]; rfl, ⟨n, rfl⟩⟩
  · have HM := Aside0.mk (show modB a = true by unfold modB; rw [h1]; rfl)
    go_enter Try.func10, Try.ntmps10
    go_wp2
    go_ret
    exact ⟨by rw [HM.out]; rfl, ⟨0, rfl⟩⟩

set_option maxHeartbeats 1000000 in
theorem moderates_any (l : List Nat) (A : Option Addr) (c : Nat) (most : Int) (w : World) (hr : kF.C w A l.length l) (hc : l.length ≤ c) (hm : l.length ≤ 9223372036854775807) :
    Calls Try.prog 31 #[.slice A l.length c, .int .i64 most] w fun e w' => e = .returned (.bool (modsB l most)) ∧ ∃ n, w' = w.drewN n := by
  have HR := Aside0.mk hr
  clear hr
  go_enter Try.func31, Try.ntmps31
  go_wp2
  go_loopw [9] (fun i wr => ∃ (k : Nat), i = .int .i64 k ∧ k ≤ l.length ∧ Aside0 (∀ x ∈ l.take k, modB x = true) ∧ Aside0 (∃ n, wr = w.drewN n)) (fun i _ => l.length - (intOf i).toNat)
  case atStart => exact ⟨0, rfl, Nat.zero_le _, ⟨by simp⟩, ⟨⟨0, rfl⟩⟩⟩
  case round =>
    obtain ⟨k, rfl, hk, HG, HW⟩ := hrel
    by_cases hlt : k < l.length
    · obtain ⟨ad, x, rfl, hx0, hcell0⟩ := at_float HR.out rfl k hlt
      have hx := Aside0.mk hx0
      obtain ⟨nw, rfl⟩ := HW.out
      have hcell := pw_cell_below (pw_below_drewN (Below.refl w.heap.size w) nw) hcell0
      clear hcell0 hx0 HW
      cases hmod : modB x
      · have HS := Aside0.mk (show modsB l most = false by
          unfold modsB
          rw [List.all_eq_false.2 ⟨x, List.mem_of_getElem? hx.out, by rw [hmod]; decide⟩]; rfl)
        go_wp2_with (go_at_call 10; refine (moderate_any _ _).mono ?_; rintro e w' ⟨rfl, n, rfl⟩)
        go_ret
        exact ⟨by rw [HS.out]; rfl, ⟨_, rfl⟩⟩
      · go_wp2_with (go_at_call 10; refine (moderate_any _ _).mono ?_; rintro e w' ⟨rfl, n, rfl⟩)
        go_roundw
        case rel =>
          refine ⟨k + 1, by go_num, by omega, ⟨fun y hy => ?_⟩, ⟨⟨_, rfl⟩⟩⟩
          obtain ⟨hk', hxx⟩ := List.getElem?_eq_some_iff.1 hx.out
          rw [List.take_succ_eq_append_getElem hk', List.mem_append, List.mem_singleton] at hy
          rcases hy with hy | hy
          · exact HG.out y hy
          · rw [hy, hxx]; exact hmod
        case measure => simp [intOf]; omega
    · obtain rfl : k = l.length := by omega
      obtain ⟨nw, rfl⟩ := HW.out
      have HS := Aside0.mk (show modsB l most = decide ((l.length : Int) ≤ most) by
        have h := HG.out
        rw [List.take_length] at h
        unfold modsB
        rw [List.all_eq_true.2 h, Bool.true_and])
      go_wp2
      go_ret
      exact ⟨by rw [HS.out]; rfl, ⟨nw, rfl⟩⟩

set_option maxHeartbeats 1000000 in
theorem same_any (l r : List Nat) (A B : Option Addr) (c d : Nat) (w : World) (hl : kF.C w A l.length l) (hr : kF.C w B r.length r) (hc : l.length ≤ c) (hd : r.length ≤ d) (hm : l.length ≤ 9223372036854775807) :
    Calls Try.prog 33 #[.slice A l.length c, .slice B r.length d] w fun e w' => e = .returned (.bool (sameB l r)) ∧ ∃ n, w' = w.drewN n := by
  have HL := Aside0.mk hl
  have HR := Aside0.mk hr
  clear hl hr
  by_cases hlen : l.length = r.length
  · have hne : ((l.length : Int) != (r.length : Int)) = false := by simp [hlen]
    have HLEN := Aside0.mk hlen
    clear hlen
    go_enter Try.func33, Try.ntmps33
    go_wp2
    clear hne
    go_loopw [13] (fun i wr => ∃ (k : Nat), i = .int .i64 k ∧ k ≤ l.length ∧ Aside0 (∃ n, wr = w.drewN n) ∧ Aside0 (∀ j, (h : j < k) → ∀ x y, l[j]? = some x → r[j]? = some y → (FloatKind.f64.format.order x y == some .eq) = true)) (fun i _ => l.length - (intOf i).toNat)
    case atStart => exact ⟨0, rfl, Nat.zero_le _, ⟨⟨0, rfl⟩⟩, ⟨fun j h => by omega⟩⟩
    case round =>
      obtain ⟨k, rfl, hk, HW, HG⟩ := hrel
      obtain ⟨nw, rfl⟩ := HW.out
      clear HW
      by_cases hlt : k < l.length
      · have hlt2 : k < r.length := by have := HLEN.out; omega
        obtain ⟨ad, x, rfl, hx0, hcell⟩ := at_float HL.out rfl k hlt
        obtain ⟨bd, y, rfl, hy0, hcell2⟩ := at_float HR.out rfl k hlt2
        have hx := Aside0.mk hx0
        have hy := Aside0.mk hy0
        clear hx0 hy0
        cases heq : (FloatKind.f64.format.order x y == some .eq)
        · have hne : (FloatKind.f64.format.order x y != some .eq) = true := by rw [bne, heq]; rfl
          have HS := Aside0.mk (show sameB l r = false by
            rw [Bool.eq_false_iff]
            intro hs
            obtain ⟨h1, h2⟩ := List.getElem?_eq_some_iff.1 hx.out
            obtain ⟨h3, h4⟩ := List.getElem?_eq_some_iff.1 hy.out
            have := (sameB_at HLEN.out).1 hs k h1
            rw [h2, h4, heq] at this
            cases this)
          clear heq
          go_wp2
          repeat (go_quiet (fail); try go_wp2)
          go_ret
          exact ⟨by rw [HS.out]; rfl, ⟨_, World.drewN_drewN _ _ _⟩⟩
        · have hne : (FloatKind.f64.format.order x y != some .eq) = false := by rw [bne, heq]; rfl
          have HE := Aside0.mk heq
          clear heq
          go_wp2
          repeat (go_quiet (fail); try go_wp2)
          go_roundw
          case rel =>
            refine ⟨k + 1, by go_num, by omega, ⟨⟨_, rfl⟩⟩, ⟨fun j hj x' y' hx' hy' => ?_⟩⟩
            rcases Nat.lt_succ_iff_lt_or_eq.1 hj with h | rfl
            · exact HG.out j h x' y' hx' hy'
            · have e1 := hx.out; have e2 := hy.out
              rw [hx'] at e1; rw [hy'] at e2
              cases e1; cases e2
              exact HE.out
          case measure => simp [intOf]; omega
      · obtain rfl : k = l.length := by omega
        have HS := Aside0.mk (show sameB l r = true from (sameB_at HLEN.out).2 fun i hi => HG.out i hi _ _ (List.getElem?_eq_getElem hi) (List.getElem?_eq_getElem (by have := HLEN.out; omega)))
        go_wp2
        go_ret
        exact ⟨by rw [HS.out]; rfl, ⟨nw, rfl⟩⟩
  · have hne : ((l.length : Int) != (r.length : Int)) = true := by simp; omega
    have HS := Aside0.mk (show sameB l r = false by
      rw [Bool.eq_false_iff]
      intro hs
      exact hlen (sameB_len hs))
    clear hlen
    go_enter Try.func33, Try.ntmps33
    go_wp2
    go_ret
    exact ⟨by rw [HS.out]; rfl, ⟨0, rfl⟩⟩
end Go.Proofs.Ytplkmbdoecepeaa
