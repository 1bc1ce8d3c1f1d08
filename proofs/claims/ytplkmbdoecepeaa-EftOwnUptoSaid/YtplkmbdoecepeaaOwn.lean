/- EftOwn: the walk. -/
import Derived.Test.YtplkmbdoecepeaaLists
import Derived.Laws.Externs
import Derived.Deep.QuietTactic
import Derived.BigQuiet
namespace Go.Proofs.Ytplkmbdoecepeaa
open Go.RowKit Go.Proofs.YtplkmbdoecepeaaW.PrintWords EftPure
set_option linter.unusedVariables false
set_option linter.unusedSimpArgs false

theorem row_bound {e base : Nat} {W : World} {v : Value} {xs : List Nat} (h : kF.R e W base (fun _ => True) v xs) : kF.R e W base (fun k => base ≤ k ∧ k < W.heap.size) v xs :=
  Kd.R_mono (Kd.R_bound h) (fun _ hk => ⟨hk.2.1, hk.2.2.1⟩)
theorem row_empty (W : World) {base : Nat} {e : TypeId} (hb : base ≤ W.heap.size) : kF.R e (W.alloc (.cells #[] e)) base (fun _ => True) (.slice (some ⟨W.heap.size, 0, none⟩) 0 0) [] :=
  Kd.R_of_own (own_lit_of (enc := fun b : Nat => Value.float .f64 b) W base e [] hb (by decide)) (fun _ _ => trivial)

theorem put_one {e base n c k : Nat} {ok : Nat → Prop} {W : World} {A : Option Addr} {ys : List Nat} (h : kF.R e W base ok (.slice A n c) ys) (hk : k < n) :
    ∃ g, A = some ⟨g, 0, none⟩ ∧ ok g ∧ base ≤ g ∧ (∃ y, W.cell? ⟨g, k, none⟩ = some (.float .f64 y)) ∧ W.frozen? ⟨g, k, none⟩ = false ∧ ∀ u, ∃ ys', kF.R e (W.setCell ⟨g, k, none⟩ (.float .f64 u)) base ok (.slice A n c) ys' := by
  obtain ⟨hn, _, _⟩ := Kd.R_reads' h
  obtain ⟨g, cap, hv, hb, _, _⟩ := Kd.R_form h (by omega)
  obtain rfl : A = some ⟨g, 0, none⟩ := by injection hv
  have hok : ok g := h.1 g (by simp [Value.ownBlock])
  obtain ⟨h1, h2⟩ := Kd.R_celln 0 h (k : Int) (by omega) (by omega)
  refine ⟨g, rfl, hok, hb, ⟨_, h1⟩, h2, fun u => ⟨_, Kd.R_putn h (k : Int) u⟩⟩

theorem run_store_float {P : Program} {W : World} {a : Addr} {old : Value} {u : Nat} (hc : W.cell? a = some old) (hf : W.frozen? a = false) : (store a (.float .f64 u)).run P W = .ok () (W.setCell a (.float .f64 u)) := by
  simp [store, Sem.run, hc, hf]

/-- Three rows of the call's own, in blocks apart. -/
def Rows3 (s1 s2 s3 s4 n2 n3 n4 : Nat) (v2 v3 v4 : Value) (W : World) : Prop := s1 ≤ s2 ∧ s2 ≤ s3 ∧
  (∃ y, kF.R 22 W s1 (fun k => s1 ≤ k ∧ k < s2) v2 y) ∧ (∃ y, kF.R 22 W s1 (fun k => s2 ≤ k ∧ k < s3) v3 y) ∧ (∃ y, kF.R 22 W s1 (fun k => s3 ≤ k ∧ k < s4) v4 y)
theorem Rows3.put2 {s1 s2 s3 s4 n2 n3 n4 c k : Nat} {A : Option Addr} {v3 v4 : Value} {W : World} (h : Rows3 s1 s2 s3 s4 n2 n3 n4 (.slice A n2 c) v3 v4 W) (hk : k < n2) :
    ∃ g, A = some ⟨g, 0, none⟩ ∧ s1 ≤ g ∧ ∃ y, W.cell? ⟨g, k, none⟩ = some (.float .f64 y) ∧ W.frozen? ⟨g, k, none⟩ = false ∧ ∀ u, Rows3 s1 s2 s3 s4 n2 n3 n4 (.slice A n2 c) v3 v4 (W.setCell ⟨g, k, none⟩ (.float .f64 u)) := by
  obtain ⟨l1, l2, ⟨y2, h2⟩, ⟨y3, h3⟩, ⟨y4, h4⟩⟩ := h
  obtain ⟨g, rfl, ok, hb, ⟨y, hc⟩, hf, hp⟩ := put_one h2 hk
  exact ⟨g, rfl, hb, y, hc, hf, fun u => ⟨l1, l2, hp u, ⟨_, Kd.R_far h3 (p := ⟨g, k, none⟩) (fun j hj => by dsimp only; omega) _⟩, ⟨_, Kd.R_far h4 (p := ⟨g, k, none⟩) (fun j hj => by dsimp only; omega) _⟩⟩⟩
theorem Rows3.put3 {s1 s2 s3 s4 n2 n3 n4 c k : Nat} {A : Option Addr} {v2 v4 : Value} {W : World} (h : Rows3 s1 s2 s3 s4 n2 n3 n4 v2 (.slice A n3 c) v4 W) (hk : k < n3) :
    ∃ g, A = some ⟨g, 0, none⟩ ∧ s1 ≤ g ∧ ∃ y, W.cell? ⟨g, k, none⟩ = some (.float .f64 y) ∧ W.frozen? ⟨g, k, none⟩ = false ∧ ∀ u, Rows3 s1 s2 s3 s4 n2 n3 n4 v2 (.slice A n3 c) v4 (W.setCell ⟨g, k, none⟩ (.float .f64 u)) := by
  obtain ⟨l1, l2, ⟨y2, h2⟩, ⟨y3, h3⟩, ⟨y4, h4⟩⟩ := h
  obtain ⟨g, rfl, ok, hb, ⟨y, hc⟩, hf, hp⟩ := put_one h3 hk
  exact ⟨g, rfl, hb, y, hc, hf, fun u => ⟨l1, l2, ⟨_, Kd.R_far h2 (p := ⟨g, k, none⟩) (fun j hj => by dsimp only; omega) _⟩, hp u, ⟨_, Kd.R_far h4 (p := ⟨g, k, none⟩) (fun j hj => by dsimp only; omega) _⟩⟩⟩
theorem Rows3.put4 {s1 s2 s3 s4 n2 n3 n4 c k : Nat} {A : Option Addr} {v2 v3 : Value} {W : World} (h : Rows3 s1 s2 s3 s4 n2 n3 n4 v2 v3 (.slice A n4 c) W) (hk : k < n4) :
    ∃ g, A = some ⟨g, 0, none⟩ ∧ s1 ≤ g ∧ ∃ y, W.cell? ⟨g, k, none⟩ = some (.float .f64 y) ∧ W.frozen? ⟨g, k, none⟩ = false ∧ ∀ u, Rows3 s1 s2 s3 s4 n2 n3 n4 v2 v3 (.slice A n4 c) (W.setCell ⟨g, k, none⟩ (.float .f64 u)) := by
  obtain ⟨l1, l2, ⟨y2, h2⟩, ⟨y3, h3⟩, ⟨y4, h4⟩⟩ := h
  obtain ⟨g, rfl, ok, hb, ⟨y, hc⟩, hf, hp⟩ := put_one h4 hk
  exact ⟨g, rfl, hb, y, hc, hf, fun u => ⟨l1, l2, ⟨_, Kd.R_far h2 (p := ⟨g, k, none⟩) (fun j hj => by dsimp only; omega) _⟩, ⟨_, Kd.R_far h3 (p := ⟨g, k, none⟩) (fun j hj => by dsimp only; omega) _⟩, hp u⟩⟩

set_option maxRecDepth 100000 in
set_option maxHeartbeats 4000000 in
theorem own_any (l : List Nat) (A : Option Addr) (c b : Nat) (w : World) (hr : kF.C w A l.length l) (hc : l.length ≤ c) (hl : (2 * l.length + 1) * 8 ≤ 140737488355328) :
    Calls Try.prog 8 #[.slice A l.length c, .float .f64 b] w fun e w' => e = .returned (.bool true) ∧ Below w.heap.size w w' := by
  have HR := Aside0.mk hr
  have HC := Aside0.mk hc
  have HL := Aside0.mk hl
  have HM := Aside0.mk (show l.length ≤ 9223372036854775807 by omega)
  clear hr hl hc
  have hbits : ∀ (b : Nat) (w : World), (callFunc 40 #[.float .f64 b]).run Try.prog w = .ok (.value (.int .u64 b)) w := fun b w => by rw [run_callFunc_extern Try.func40 (by kernel_rfl) (by kernel_rfl) (by kernel_rfl) (e := Extern.MathFloatBits.float64bits) (by kernel_rfl)]; rfl
  go_enter Try.func8, Try.ntmps8
  go_wp2_with (first | (go_at_call 9; go_must (refine (lives_any _).mono ?_; rintro e W0 ⟨rfl, hb⟩; have B0 := Aside0.mk hb; clear hb)) | ((with_reducible refine gate_builtin (b := .append) (xs := #[.tmp 15, .tmp 16]) rfl ?_); at_builtin; go_must (refine Kd.R_append_row (fun b : Nat => Value.float .f64 b) 0 (h1 := fun _ => rfl) (w0 := w) w.heap.size rfl (.tmp 15) (.tmp 16) 40 22 (.float .f64 0) 8 rfl Try.underlying40 info_float rfl (by decide) (.slice (some ⟨W0.heap.size, 0, none⟩) 0 0) [] l A l.length c (fun _ => True) rfl rfl (fun _ _ => trivial) (row_empty W0 B0.out.size) (Kd.C_alloc (Kd.C_below HR.out B0.out) _) (below_alloc B0.out _) ?hs ?hl ?_; (case hs => exact (below_alloc B0.out (.cells #[] 22)).size); (case hl => have := HL.out; simp; omega); intro v1 w_1 ho hb _ _; obtain ⟨A_1, c_1, rfl, hc1, hC1⟩ := Kd.R_reads ho; have HC1 := Aside0.mk hc1; have HR1 := Aside0.mk hC1; have BW := Aside0.mk hb; have B1 := Aside0.mk (Below.refl w_1.heap.size w_1); clear ho hb hc1 hC1)) | (go_at_call 28; go_must (refine (sum_any l A_1 c_1 w_1 HR1.out HC1.out ?hl).mono ?_; (case hl => have := HL.out; omega); rintro e w_2 ⟨v_2, o_2, rfl, _, _, ho, hb⟩; obtain ⟨A_2, c_2, rfl, hc1, hC1⟩ := Kd.R_reads ho; have HN2 : o_2.length ≤ 9223372036854775807 := hC1.2.1; have HO2 := Aside0.mk (row_bound ho); have SZ2 := Aside0.mk hb.size; have B2 := Aside0.mk (below_then B1.out B1.out.size hb); clear ho hb hc1 hC1)) | (go_at_call 27; go_must (refine (grow_any l A_1 c_1 b _ (Kd.C_below HR1.out B2.out) HC1.out ?hl).mono ?_; (case hl => have := HL.out; omega); rintro e w_3 ⟨v_3, o_3, rfl, _, ho, hb⟩; obtain ⟨A_3, c_3, rfl, hc1, hC1⟩ := Kd.R_reads ho; have HN3 : o_3.length ≤ 9223372036854775807 := hC1.2.1; have HO3 := Aside0.mk (row_bound ho); replace HO2 := Aside0.mk (Kd.R_below HO2.out hb); have SZ3 := Aside0.mk hb.size; have B3 := Aside0.mk (below_then B2.out B2.out.size hb); clear ho hb hc1 hC1)) | (go_at_call 29; go_must (refine (scale_any l A_1 c_1 b _ (Kd.C_below HR1.out B3.out) HC1.out ?hl).mono ?_; (case hl => have := HL.out; omega); rintro e w_4 ⟨v_4, o_4, rfl, _, ho, hb⟩; obtain ⟨A_4, c_4, rfl, hc1, hC1⟩ := Kd.R_reads ho; have HN4 : o_4.length ≤ 9223372036854775807 := hC1.2.1; have HO4 := Aside0.mk (row_bound ho); replace HO2 := Aside0.mk (Kd.R_below HO2.out hb); replace HO3 := Aside0.mk (Kd.R_below HO3.out hb); have SZ4 := Aside0.mk hb.size; have B4 := Aside0.mk (below_then B3.out B3.out.size hb); clear ho hb hc1 hC1)))
  have R3 := Aside0.mk (show Rows3 w_1.heap.size w_2.heap.size w_3.heap.size w_4.heap.size o_2.length o_3.length o_4.length (.slice A_2 o_2.length c_2) (.slice A_3 o_3.length c_3) (.slice A_4 o_4.length c_4) w_4 from ⟨SZ2.out, SZ3.out, ⟨_, HO2.out⟩, ⟨_, Kd.R_lower HO3.out SZ2.out⟩, ⟨_, Kd.R_lower HO4.out (Nat.le_trans SZ2.out SZ3.out)⟩⟩)
  clear HO2 HO3 HO4 B2 B3 SZ2 SZ3 SZ4
  go_loopw [28] (fun i wr => ∃ k : Nat, i = .int .i64 k ∧ k ≤ o_2.length ∧ Aside0 (Rows3 w_1.heap.size w_2.heap.size w_3.heap.size w_4.heap.size o_2.length o_3.length o_4.length (.slice A_2 o_2.length c_2) (.slice A_3 o_3.length c_3) (.slice A_4 o_4.length c_4) wr) ∧ Aside0 (Below w_1.heap.size w_1 wr)) (fun i _ => o_2.length - (intOf i).toNat)
  case atStart => exact ⟨0, rfl, Nat.zero_le _, R3, B4⟩
  case round =>
    obtain ⟨k, rfl, hk, HRR, HBB⟩ := hrel
    by_cases hlt : k < o_2.length
    · obtain ⟨g, rfl, hg, y, hcell, hfr, hput⟩ := HRR.out.put2 hlt
      have HG := Aside0.mk hg
      have HP := Aside0.mk hput
      clear hg hput
      have hst := run_store_float (P := Try.prog) (u := 4635118810238550016) hcell hfr
      go_wp2
      go_roundw
      case rel => exact ⟨k + 1, by go_num, by omega, ⟨HP.out _⟩, ⟨HBB.out.setCell HG.out _⟩⟩
      case measure => simp [intOf]; omega
    · obtain rfl : k = o_2.length := by omega
      have R4 := HRR
      have B5 := HBB
      clear HRR HBB R3 B4
      go_wp2
      go_loopw [37] (fun i wr => ∃ k : Nat, i = .int .i64 k ∧ k ≤ o_3.length ∧ Aside0 (Rows3 w_1.heap.size w_2.heap.size w_3.heap.size w_4.heap.size o_2.length o_3.length o_4.length (.slice A_2 o_2.length c_2) (.slice A_3 o_3.length c_3) (.slice A_4 o_4.length c_4) wr) ∧ Aside0 (Below w_1.heap.size w_1 wr)) (fun i _ => o_3.length - (intOf i).toNat)
      case atStart => exact ⟨0, rfl, Nat.zero_le _, R4, B5⟩
      case round =>
        obtain ⟨k, rfl, hk, HRR, HBB⟩ := hrel
        by_cases hlt : k < o_3.length
        · obtain ⟨g, rfl, hg, y, hcell, hfr, hput⟩ := HRR.out.put3 hlt
          have HG := Aside0.mk hg
          have HP := Aside0.mk hput
          clear hg hput
          have hst := run_store_float (P := Try.prog) (u := 4635118810238550016) hcell hfr
          go_wp2
          go_roundw
          case rel => exact ⟨k + 1, by go_num, by omega, ⟨HP.out _⟩, ⟨HBB.out.setCell HG.out _⟩⟩
          case measure => simp [intOf]; omega
        · obtain rfl : k = o_3.length := by omega
          have R5 := HRR
          have B6 := HBB
          clear HRR HBB R4 B5
          go_wp2
          go_loopw [46] (fun i wr => ∃ k : Nat, i = .int .i64 k ∧ k ≤ o_4.length ∧ Aside0 (Rows3 w_1.heap.size w_2.heap.size w_3.heap.size w_4.heap.size o_2.length o_3.length o_4.length (.slice A_2 o_2.length c_2) (.slice A_3 o_3.length c_3) (.slice A_4 o_4.length c_4) wr) ∧ Aside0 (Below w_1.heap.size w_1 wr)) (fun i _ => o_4.length - (intOf i).toNat)
          case atStart => exact ⟨0, rfl, Nat.zero_le _, R5, B6⟩
          case round =>
            obtain ⟨k, rfl, hk, HRR, HBB⟩ := hrel
            by_cases hlt : k < o_4.length
            · obtain ⟨g, rfl, hg, y, hcell, hfr, hput⟩ := HRR.out.put4 hlt
              have HG := Aside0.mk hg
              have HP := Aside0.mk hput
              clear hg hput
              have hst := run_store_float (P := Try.prog) (u := 4635118810238550016) hcell hfr
              go_wp2
              go_roundw
              case rel => exact ⟨k + 1, by go_num, by omega, ⟨HP.out _⟩, ⟨HBB.out.setCell HG.out _⟩⟩
              case measure => simp [intOf]; omega
            · obtain rfl : k = o_4.length := by omega
              have R6 := HRR
              have B7 := HBB
              clear HRR HBB R5 B6
              go_wp2
              clear R6
              go_loopw [55] (fun i wr => ∃ k : Nat, i = .int .i64 k ∧ k ≤ l.length ∧ Aside0 (Below w_1.heap.size w_1 wr)) (fun i _ => l.length - (intOf i).toNat)
              case atStart => exact ⟨0, rfl, Nat.zero_le _, B7⟩
              case round =>
                clear B7
                obtain ⟨k, rfl, hk, HBB⟩ := hrel
                by_cases hlt : k < l.length
                · obtain ⟨ad, x, rfl, hx0, hcell⟩ := at_float (Kd.C_below HR1.out HBB.out) rfl k hlt
                  obtain ⟨bd, y, rfl, hy0, hcell2⟩ := at_float (Kd.C_below (Kd.C_below HR.out BW.out) HBB.out) rfl k hlt
                  have hxy : x = y := Option.some.inj (hx0.symm.trans hy0)
                  subst hxy
                  clear hx0 hy0
                  have hm := HM.out
                  have hne : ((x : Int) != (x : Int)) = false := by simp
                  go_wp2
                  repeat (go_quiet (fail); try go_wp2)
                  go_roundw
                  case rel => exact ⟨k + 1, by go_num, by omega, ⟨pw_below_drewN HBB.out _⟩⟩
                  case measure => simp [intOf]; omega
                · obtain rfl : k = l.length := by omega
                  go_wp2_with (go_at_call 6; go_must (refine (lists_any l A_1 c_1 b _ (Kd.C_below HR1.out HBB.out) HC1.out HL.out).mono ?_; rintro e w' ⟨rfl, hb⟩; have B8 := Aside0.mk (below_then BW.out BW.out.size (below_then HBB.out HBB.out.size hb)); clear hb))
                  go_ret
                  exact ⟨rfl, B8.out⟩
end Go.Proofs.Ytplkmbdoecepeaa
