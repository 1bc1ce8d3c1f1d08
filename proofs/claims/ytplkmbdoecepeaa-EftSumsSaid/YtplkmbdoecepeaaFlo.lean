/- Float operations as the walk takes them: an operation that is not valid draws its bits. -/
import Derived.Test.YtplkmbdoecepeaaProg
import Derived.WalkKit
import Derived.WalkSpells
import Derived.WalkLawsBesides
import Derived.Laws.FloatArith
import Derived.KernelRfl
import Derived.Test.YtplkmbdoecepeaaWWords
import Derived.Test.YtplkmbdoecepeaaEftPlain
namespace Go.Proofs.Ytplkmbdoecepeaa
open Go.RowKit Go.Proofs.YtplkmbdoecepeaaW.PrintWords EftPure
set_option linter.unusedVariables false
set_option linter.unusedSimpArgs false

/-- What an operation gives in a world. -/
def fval (op : BinOp) (x y : Nat) (w : World) : Nat :=
  match floatBits op .f64 x y with
  | some r => r
  | none => (Question.nanBits .f64 x y).cut (w.tape w.drawn (Question.nanBits .f64 x y))

/-- The world behind it. -/
def fwo (op : BinOp) (x y : Nat) (w : World) : World :=
  match floatBits op .f64 x y with
  | some _ => w
  | none => w.drew

theorem fval_FR (op : BinOp) (x y : Nat) (w : World) : FR op x y (fval op x y w) := by
  intro z hz
  simp only [fval, hz]

theorem fwo_drewN (op : BinOp) (x y : Nat) (w : World) : ∃ n, fwo op x y w = w.drewN n := by
  unfold fwo
  split
  · exact ⟨0, rfl⟩
  · exact ⟨1, rfl⟩

theorem run_fadd {P : Program} (t : TypeId) (x y : Nat) (w : World) : (binOp .add t (.float .f64 x) (.float .f64 y)).run P w = .ok (.float .f64 (fval .add x y w)) (fwo .add x y w) := by
  cases h : floatBits .add .f64 x y with
  | some r => rw [run_float_arith w .add t .f64 x y r h]; simp only [fval, fwo, h]
  | none =>
    have h' : FloatKind.f64.format.add x y = none := h
    simp [binOp, Op.floatArith, h', fval, fwo, h, go_sem]
theorem run_fsub {P : Program} (t : TypeId) (x y : Nat) (w : World) : (binOp .sub t (.float .f64 x) (.float .f64 y)).run P w = .ok (.float .f64 (fval .sub x y w)) (fwo .sub x y w) := by
  cases h : floatBits .sub .f64 x y with
  | some r => rw [run_float_arith w .sub t .f64 x y r h]; simp only [fval, fwo, h]
  | none =>
    have h' : FloatKind.f64.format.sub x y = none := h
    simp [binOp, Op.floatArith, h', fval, fwo, h, go_sem]
theorem run_fmul {P : Program} (t : TypeId) (x y : Nat) (w : World) : (binOp .mul t (.float .f64 x) (.float .f64 y)).run P w = .ok (.float .f64 (fval .mul x y w)) (fwo .mul x y w) := by
  cases h : floatBits .mul .f64 x y with
  | some r => rw [run_float_arith w .mul t .f64 x y r h]; simp only [fval, fwo, h]
  | none =>
    have h' : FloatKind.f64.format.mul x y = none := h
    simp [binOp, Op.floatArith, h', fval, fwo, h, go_sem]

theorem drewN_of {w w1 w2 : World} (h : ∃ n, w1 = w.drewN n) (k : ∃ n, w2 = w1.drewN n) : ∃ n, w2 = w.drewN n := by
  obtain ⟨n, rfl⟩ := h
  obtain ⟨m, rfl⟩ := k
  exact ⟨n + m, World.drewN_drewN ..⟩


section
variable {P : Program} {ops : Array Oper} {rest : List Oper} {o : Oper} {a : Act} {Q : Exit → Act → World → Prop} {W : World}
theorem gate_bin {op : BinOp} {t t2 : TypeId} {x y : Operand} (_ho : o.op = .binOp op t x y t2) (h : wpList P ops Q (o :: rest) a W) : wpList P ops Q (o :: rest) a W := h
theorem gate_builtin {b : Builtin} {xs : Array Operand} {ts : Array TypeId} (_ho : o.op = .call { callee := .builtin b, args := xs, argTypes := ts }) (h : wpList P ops Q (o :: rest) a W) : wpList P ops Q (o :: rest) a W := h
/-- A float operation, valid or not. -/
theorem fop_event (op : BinOp) {t t2 : TypeId} {x y : Operand} (ho : o.op = .binOp op t x y t2) (hop : op = .add ∨ op = .sub ∨ op = .mul) {u v : Nat} (hx : a.eval x = .float .f64 u) (hy : a.eval y = .float .f64 v) (hgd : o.guard = none)
    (h : ∀ r n, FR op u v r → wpList P ops Q rest (a.put o.dst (.float .f64 r)) (W.drewN n)) : wpList P ops Q (o :: rest) a W := by
  obtain ⟨n, hn⟩ := fwo_drewN op u v W
  refine Kd.event_run (v := .float .f64 (fval op u v W)) (w1 := W.drewN n) hgd ?_ (h _ n (fval_FR op u v W))
  have hrun : (binOp op t (.float .f64 u) (.float .f64 v)).run P W = .ok (.float .f64 (fval op u v W)) (W.drewN n) := by
    rw [← hn]
    rcases hop with rfl | rfl | rfl
    · exact run_fadd t u v W
    · exact run_fsub t u v W
    · exact run_fmul t u v W
  unfold execOp
  rw [ho]
  dsimp only
  rw [hx, hy]
  rcases hop with rfl | rfl | rfl <;> simp [hrun, eqGuard, go_sem]
end

set_option maxHeartbeats 1000000 in
theorem two_sum (a b : Nat) (w : World) :
    Calls Try.prog 11 #[.float .f64 a, .float .f64 b] w fun e w' => ∃ s t n, e = .returned (.tuple #[.float .f64 s, .float .f64 t]) ∧ TSR a b s t ∧ w' = w.drewN n := by
  go_enter Try.func11, Try.ntmps11
  go_wp2_with (first | ((with_reducible refine gate_bin (t := 22) rfl ?_); (refine fop_event _ rfl (by decide) rfl rfl rfl ?_); intro _ _ hh_; have _ := Aside0.mk hh_; clear hh_))
  rename_i r1 n1 h1 r2 n2 h2 r3 n3 h3 r4 n4 h4 r5 n5 h5 r6 n6 h6
  go_ret2
  exact ⟨_, _, _, rfl, ⟨_, _, _, _, h1.out, h2.out, h3.out, h4.out, h5.out, h6.out⟩, rfl⟩
set_option maxHeartbeats 1000000 in
theorem two_sum_ref (a b : Nat) (w : World) :
    Calls Try.prog 19 #[.float .f64 a, .float .f64 b] w fun e w' => ∃ s t n, e = .returned (.tuple #[.float .f64 s, .float .f64 t]) ∧ TSR a b s t ∧ w' = w.drewN n := by
  go_enter Try.func19, Try.ntmps19
  go_wp2_with (first | ((with_reducible refine gate_bin (t := 22) rfl ?_); (refine fop_event _ rfl (by decide) rfl rfl rfl ?_); intro _ _ hh_; have _ := Aside0.mk hh_; clear hh_))
  rename_i r1 n1 h1 r2 n2 h2 r3 n3 h3 r4 n4 h4 r5 n5 h5 r6 n6 h6
  go_ret2
  exact ⟨_, _, _, rfl, ⟨_, _, _, _, h1.out, h2.out, h3.out, h4.out, h5.out, h6.out⟩, rfl⟩
set_option maxHeartbeats 1000000 in
theorem fast_two_sum (a b : Nat) (w : World) :
    Calls Try.prog 17 #[.float .f64 a, .float .f64 b] w fun e w' => ∃ s t n, e = .returned (.tuple #[.float .f64 s, .float .f64 t]) ∧ FSR a b s t ∧ w' = w.drewN n := by
  go_enter Try.func17, Try.ntmps17
  go_wp2_with (first | ((with_reducible refine gate_bin (t := 22) rfl ?_); (refine fop_event _ rfl (by decide) rfl rfl rfl ?_); intro _ _ hh_; have _ := Aside0.mk hh_; clear hh_))
  rename_i r1 n1 h1 r2 n2 h2 r3 n3 h3
  go_ret2
  exact ⟨_, _, _, rfl, ⟨_, h1.out, h2.out, h3.out⟩, rfl⟩
set_option maxHeartbeats 1000000 in
theorem fast_two_sum_ref (a b : Nat) (w : World) :
    Calls Try.prog 20 #[.float .f64 a, .float .f64 b] w fun e w' => ∃ s t n, e = .returned (.tuple #[.float .f64 s, .float .f64 t]) ∧ FSR a b s t ∧ w' = w.drewN n := by
  go_enter Try.func20, Try.ntmps20
  go_wp2_with (first | ((with_reducible refine gate_bin (t := 22) rfl ?_); (refine fop_event _ rfl (by decide) rfl rfl rfl ?_); intro _ _ hh_; have _ := Aside0.mk hh_; clear hh_))
  rename_i r1 n1 h1 r2 n2 h2 r3 n3 h3
  go_ret2
  exact ⟨_, _, _, rfl, ⟨_, h1.out, h2.out, h3.out⟩, rfl⟩
set_option maxHeartbeats 1000000 in
theorem split (a : Nat) (w : World) :
    Calls Try.prog 18 #[.float .f64 a] w fun e w' => ∃ h l n, e = .returned (.tuple #[.float .f64 h, .float .f64 l]) ∧ SPR a h l ∧ w' = w.drewN n := by
  go_enter Try.func18, Try.ntmps18
  go_wp2_with (first | ((with_reducible refine gate_bin (t := 22) rfl ?_); (refine fop_event _ rfl (by decide) rfl rfl rfl ?_); intro _ _ hh_; have _ := Aside0.mk hh_; clear hh_))
  rename_i r1 n1 h1 r2 n2 h2 r3 n3 h3 r4 n4 h4
  go_ret2
  exact ⟨_, _, _, rfl, ⟨_, _, h1.out, h2.out, h3.out, h4.out⟩, rfl⟩
set_option maxHeartbeats 1000000 in
theorem split_ref (a : Nat) (w : World) :
    Calls Try.prog 21 #[.float .f64 a] w fun e w' => ∃ h l n, e = .returned (.tuple #[.float .f64 h, .float .f64 l]) ∧ SPR a h l ∧ w' = w.drewN n := by
  go_enter Try.func21, Try.ntmps21
  go_wp2_with (first | ((with_reducible refine gate_bin (t := 22) rfl ?_); (refine fop_event _ rfl (by decide) rfl rfl rfl ?_); intro _ _ hh_; have _ := Aside0.mk hh_; clear hh_))
  rename_i r1 n1 h1 r2 n2 h2 r3 n3 h3 r4 n4 h4
  go_ret2
  exact ⟨_, _, _, rfl, ⟨_, _, h1.out, h2.out, h3.out, h4.out⟩, rfl⟩
set_option maxHeartbeats 1000000 in
theorem two_prod_ref (a b : Nat) (w : World) :
    Calls Try.prog 22 #[.float .f64 a, .float .f64 b] w fun e_ w' => ∃ p e n, e_ = .returned (.tuple #[.float .f64 p, .float .f64 e]) ∧ TPR a b p e ∧ w' = w.drewN n := by
  go_enter Try.func22, Try.ntmps22
  go_wp2_with (first | (go_at_call 21; refine (split_ref _ _).mono ?_; rintro e w' ⟨_, _, _, rfl, hh_, rfl⟩; have _ := Aside0.mk hh_; clear hh_) | ((with_reducible refine gate_bin (t := 22) rfl ?_); (refine fop_event _ rfl (by decide) rfl rfl rfl ?_); intro _ _ hh_; have _ := Aside0.mk hh_; clear hh_))
  rename_i p _ hp h l _ hs1 m n _ hs2 x1 _ hx1 y1 _ hy1 x2 _ hx2 y2 _ hy2 x3 _ hx3 y3 _ hy3 z _ hz e _ he
  go_ret2
  exact ⟨_, _, _, rfl, ⟨h, l, m, n, x1, x2, x3, y1, y2, y3, z, hp.out, hs1.out, hs2.out, hx1.out, hx2.out, hx3.out, hy1.out, hy2.out, hy3.out, hz.out, he.out⟩, rfl⟩
set_option maxHeartbeats 1000000 in
theorem two_prod (a b : Nat) (w : World) :
    Calls Try.prog 12 #[.float .f64 a, .float .f64 b] w fun e_ w' => ∃ p e n, e_ = .returned (.tuple #[.float .f64 p, .float .f64 e]) ∧ TPR a b p e ∧ w' = w.drewN n := by
  have i0 : ∀ (x y z : Nat) (w : World), (Instr.index 50 (.agg #[.float .f64 x, .float .f64 y, .float .f64 z]) (.int .i64 0)).run Try.prog w = .ok (.float .f64 x) w := fun _ _ _ _ => by kernel_rfl
  have i1 : ∀ (x y z : Nat) (w : World), (Instr.index 50 (.agg #[.float .f64 x, .float .f64 y, .float .f64 z]) (.int .i64 1)).run Try.prog w = .ok (.float .f64 y) w := fun _ _ _ _ => by kernel_rfl
  have i2 : ∀ (x y z : Nat) (w : World), (Instr.index 50 (.agg #[.float .f64 x, .float .f64 y, .float .f64 z]) (.int .i64 2)).run Try.prog w = .ok (.float .f64 z) w := fun _ _ _ _ => by kernel_rfl
  go_enter Try.func12, Try.ntmps12
  go_wp2_with (first | (go_at_call 18; refine (split _ _).mono ?_; rintro e w' ⟨_, _, _, rfl, hh_, rfl⟩; have _ := Aside0.mk hh_; clear hh_) | ((with_reducible refine gate_bin (t := 22) rfl ?_); (refine fop_event _ rfl (by decide) rfl rfl rfl ?_); intro _ _ hh_; have _ := Aside0.mk hh_; clear hh_))
  refine wp_loop_rounds 4 ?_
  rw [rounds_succ]
  go_wp2_with (first | (go_at_call 18; refine (split _ _).mono ?_; rintro e w' ⟨_, _, _, rfl, hh_, rfl⟩; have _ := Aside0.mk hh_; clear hh_) | ((with_reducible refine gate_bin (t := 22) rfl ?_); (refine fop_event _ rfl (by decide) rfl rfl rfl ?_); intro _ _ hh_; have _ := Aside0.mk hh_; clear hh_))
  rw [rounds_succ]
  go_wp2_with (first | (go_at_call 18; refine (split _ _).mono ?_; rintro e w' ⟨_, _, _, rfl, hh_, rfl⟩; have _ := Aside0.mk hh_; clear hh_) | ((with_reducible refine gate_bin (t := 22) rfl ?_); (refine fop_event _ rfl (by decide) rfl rfl rfl ?_); intro _ _ hh_; have _ := Aside0.mk hh_; clear hh_))
  rw [rounds_succ]
  go_wp2_with (first | (go_at_call 18; refine (split _ _).mono ?_; rintro e w' ⟨_, _, _, rfl, hh_, rfl⟩; have _ := Aside0.mk hh_; clear hh_) | ((with_reducible refine gate_bin (t := 22) rfl ?_); (refine fop_event _ rfl (by decide) rfl rfl rfl ?_); intro _ _ hh_; have _ := Aside0.mk hh_; clear hh_))
  rw [rounds_succ]
  go_wp2_with (first | (go_at_call 18; refine (split _ _).mono ?_; rintro e w' ⟨_, _, _, rfl, hh_, rfl⟩; have _ := Aside0.mk hh_; clear hh_) | ((with_reducible refine gate_bin (t := 22) rfl ?_); (refine fop_event _ rfl (by decide) rfl rfl rfl ?_); intro _ _ hh_; have _ := Aside0.mk hh_; clear hh_))
  go_ret2
  exact ⟨_, _, _, rfl, ⟨_, _, _, _, _, _, _, _, _, _, _, Aside0.out (by assumption), Aside0.out (by assumption), Aside0.out (by assumption), Aside0.out (by assumption), Aside0.out (by assumption), Aside0.out (by assumption), Aside0.out (by assumption), Aside0.out (by assumption), Aside0.out (by assumption), Aside0.out (by assumption), Aside0.out (by assumption)⟩, rfl⟩
end Go.Proofs.Ytplkmbdoecepeaa
