/- Lists of words in memory. -/
import Derived.Test.YtplkmbdoecepeaaProg
import Derived.Test.YtplkmbdoecepeaaWWords
import Derived.Test.YtplkmbdoecepeaaLimb
import Derived.WalkSpells
import Derived.WalkLawsBesides
import Derived.Deep.QuietTactic
import Derived.BigQuiet
namespace Go.Proofs.Ytplkmbdoecepeaa
open Go.RowKit Go.Proofs.YtplkmbdoecepeaaW.PrintWords Limb
set_option linter.unusedVariables false
set_option linter.unusedSimpArgs false

/-- A word in one cell. -/
def kU : Kd Nat := Kd.scalar (fun n => .int .u64 (n : Int)) (fun _ => rfl)
theorem info_word : (Try.prog.info? 48).map (fun i => (i.zero, i.size, i.bytes)) = some (some (.int .u64 0), 1, 8) := by kernel_rfl

section
variable {P : Program} {ops : Array Oper} {rest : List Oper} {o : Oper} {a : Act} {Q : Exit → Act → World → Prop} {W : World}
theorem gate_builtin {b : Builtin} {xs : Array Operand} {ts : Array TypeId} (_ho : o.op = .call { callee := .builtin b, args := xs, argTypes := ts }) (h : wpList P ops Q (o :: rest) a W) : wpList P ops Q (o :: rest) a W := h
end

theorem at_word {w : World} {A : Option Addr} {n : Nat} {xs : List Nat} (h : kU.C w A n xs) (hn : xs.length = n) (i : Nat) (hi : i < n) : ∃ ad x, A = some ad ∧ xs[i]? = some x ∧ w.cell? (ad.add i) = some (.int .u64 (x : Int)) := by
  obtain ⟨ad, c, e, _, hK, hc0⟩ := Kd.C_get h 0 (i : Int) (by omega) (by omega)
  refine ⟨ad, xs.getD i 0, e, by rw [List.getD_eq_getElem?_getD, List.getElem?_eq_getElem (by omega)]; rfl, ?_⟩
  have hc : c = [.int .u64 ((xs.getD ((i : Int)).toNat 0 : Nat) : Int)] := hK
  have := hc0 0 (.int .u64 ((xs.getD ((i : Int)).toNat 0 : Nat) : Int)) (by rw [hc]; rfl)
  simpa [kU, Kd.scalar] using this
theorem C_take {w : World} {A : Option Addr} {xs : List Nat} (h : kU.C w A xs.length xs) (k : Nat) (hk : k ≤ xs.length) : kU.C w A k (xs.take k) := by
  obtain ⟨_, h2, h3⟩ := h
  refine ⟨by rw [List.length_take]; omega, by omega, fun hp => ?_⟩
  obtain ⟨ad, e, hc⟩ := h3 (by omega)
  refine ⟨ad, e, fun j p hj => hc j p ?_⟩
  have hjk : j < k := by have := (List.getElem?_eq_some_iff.1 hj).1; rw [List.length_take] at this; omega
  rwa [List.getElem?_take_of_lt hjk] at hj

theorem run_to (n : Nat) (A : Option Addr) (c k : Nat) (hn : n ≤ c) (hk : k ≤ n) : ∀ W : World, (Instr.slice 28 (.slice A n c) none (some (.int .i64 (k : Int))) none).run Try.prog W = .ok (.slice A k c) W := by
  obtain ⟨i, hi, he⟩ := Option.map_eq_some_iff.1 info_word
  simp only [Prod.mk.injEq] at he
  intro W
  have h := (print_take_of (P := Try.prog) (fun x : Nat => Value.int .u64 (x : Int)) 0 28 48 .i64 Try.underlying28 hi he.2.1 A c (List.replicate n 0) (k : Int) (by omega) (by simp; omega) (by simp; omega)).1 W
  simpa [Nat.min_eq_left hk] using h

/-- A word of a row of one's own: read, and written. -/
theorem put_word {e base n c k : Nat} {ok : Nat → Prop} {W : World} {g : Nat} {ys : List Nat} (h : kU.R e W base ok (.slice (some ⟨g, 0, none⟩) n c) ys) (hk : k < n) :
    W.cell? ⟨g, k, none⟩ = some (.int .u64 ((wd ys k : Nat) : Int)) ∧ W.frozen? ⟨g, k, none⟩ = false ∧ ∀ u : Nat, kU.R e (W.setCell ⟨g, k, none⟩ (.int .u64 (u : Int))) base ok (.slice (some ⟨g, 0, none⟩) n c) (ys.set k u) := by
  obtain ⟨hn, _, _⟩ := Kd.R_reads' h
  obtain ⟨h1, h2⟩ := Kd.R_celln 0 h (k : Int) (by omega) (by omega)
  refine ⟨?_, h2, fun u => Kd.R_putn h (k : Int) u⟩
  have e1 : rdOf 0 ys (k : Int) = wd ys k := by unfold wd; rw [List.getElem?_eq_getElem (by omega)]; simp [rdOf, List.getD_eq_getElem?_getD, List.getElem?_eq_getElem (show k < ys.length by omega)]
  rw [e1] at h1
  exact h1
theorem run_store_word {P : Program} {W : World} {a : Addr} {old : Value} {u : Int} (hc : W.cell? a = some old) (hf : W.frozen? a = false) : (store a (.int .u64 u)).run P W = .ok () (W.setCell a (.int .u64 u)) := by
  simp [store, Sem.run, hc, hf]

theorem quiet_below {w w' : World} (h : ∃ n, w' = w.drewN n) : Below w.heap.size w w' := by
  obtain ⟨n, rfl⟩ := h
  exact pw_below_drewN (Below.refl _ _) n

set_option maxHeartbeats 1000000 in
theorem norm_any (l : List Nat) (A : Option Addr) (c : Nat) (w : World) (hr : kU.C w A l.length l) (hc : l.length ≤ c) (hw : Wf l) (hl : l.length ≤ 4294967296) :
    Calls Try.prog 45 #[.slice A l.length c] w fun e w' => ∃ v, e = .returned v ∧ kU.R 48 w' w.heap.size (fun _ => True) v (limbs (nv l)) ∧ Below w.heap.size w w' := by
  have HR := Aside0.mk hr
  have HW := Aside0.mk hw
  clear hr hw
  go_enter Try.func45, Try.ntmps45
  go_wp2
  go_loopw [3] (fun i wr => ∃ k : Nat, i = .int .i64 k ∧ k ≤ l.length ∧ Aside0 (∃ n, wr = w.drewN n) ∧ Aside0 (∀ j x, k ≤ j → l[j]? = some x → x = 0)) (fun i _ => (intOf i).toNat)
  case atStart => exact ⟨l.length, rfl, Nat.le_refl _, ⟨⟨0, rfl⟩⟩, ⟨fun j x hj hx => by rw [List.getElem?_eq_none hj] at hx; cases hx⟩⟩
  case round =>
    obtain ⟨k, rfl, hk, HWR, HG⟩ := hrel
    obtain ⟨nw, rfl⟩ := HWR.out
    clear HWR
    have hkc : k ≤ c := by omega
    have HBB := Aside0.mk (pw_below_drewN (Below.refl w.heap.size w) nw)
    by_cases hk0 : k = 0
    · have HK := Aside0.mk (limbs_take HW.out hk HG.out (fun h => by omega))
      have hkn : k ≤ 0 := by omega
      have hkd2 : decide (0 < k) = false := decide_eq_false (by omega)
      have hkd : decide (0 < (k : Int)) = false := decide_eq_false (by omega)
      have hsl := run_to l.length A c k hc hk
      clear hk0
      go_wp2_with ((with_reducible refine gate_builtin (b := .append) (xs := #[.tmp 19, .tmp 22]) rfl ?_); at_builtin; go_must (refine Kd.R_append_row (fun n : Nat => Value.int .u64 (n : Int)) 0 (h1 := fun _ => rfl) (w0 := w) w.heap.size rfl (.tmp 19) (.tmp 22) 28 48 (.int .u64 0) 8 rfl Try.underlying28 info_word rfl (by decide) (.slice none 0 0) [] (l.take k) A k c (fun _ => True) rfl rfl (fun _ _ => trivial) (Kd.R_nil _ _ _ _ _) ?hC (HBB.out) HBB.out.size ?hl ?_; (case hC => exact C_take (Kd.C_below HR.out HBB.out) k hk); (case hl => simp; omega); intro v1 w1 ho hb _ _; rw [List.nil_append, ← HK.out] at ho; have HO' := Aside0.mk ho; have HB' := Aside0.mk hb; clear ho hb))
      go_ret
      exact ⟨_, rfl, HO'.out, HB'.out⟩
    · have hkd : decide (0 < (k : Int)) = true := decide_eq_true (by omega)
      have hkp : 0 < k := by omega
      obtain ⟨ad, x, rfl, hx0, hcell⟩ := at_word HR.out rfl (k - 1) (by omega)
      have hx := Aside0.mk hx0
      have e1 : IntKind.i64.wrap ((k : Int) - 1) = (k : Int) - 1 := by unfold IntKind.wrap; simp [IntKind.bits, IntKind.signed]; omega
      have e2 : ((k : Int) - 1).toNat = k - 1 := by omega
      have e3 : 0 ≤ (k : Int) - 1 := by omega
      have e4 : (k : Int) - 1 < l.length := by omega
      clear hx0 hk0
      by_cases hz : x = 0
      · subst hz
        go_wp2
        go_roundw
        case rel =>
          refine ⟨k - 1, by rw [show ((k - 1 : Nat) : Int) = (k : Int) - 1 by omega], by omega, ⟨⟨nw, rfl⟩⟩, ⟨fun j y hj hy => ?_⟩⟩
          by_cases hjk : j = k - 1
          · subst hjk
            have := hx.out
            rw [hy] at this
            exact Option.some.inj this
          · exact HG.out j y (by omega) hy
        case measure => simp [intOf]; omega
      · have HK := Aside0.mk (limbs_take HW.out hk HG.out (fun _ => ⟨x, hx.out, hz⟩))
        have hxz : ((x : Int) == 0) = false := by simp; exact hz
        have hsl := run_to l.length (some ad) c k hc hk
        clear hz
        go_wp2_with ((with_reducible refine gate_builtin (b := .append) (xs := #[.tmp 19, .tmp 22]) rfl ?_); at_builtin; go_must (refine Kd.R_append_row (fun n : Nat => Value.int .u64 (n : Int)) 0 (h1 := fun _ => rfl) (w0 := w) w.heap.size rfl (.tmp 19) (.tmp 22) 28 48 (.int .u64 0) 8 rfl Try.underlying28 info_word rfl (by decide) (.slice none 0 0) [] (l.take k) (some ad) k c (fun _ => True) rfl rfl (fun _ _ => trivial) (Kd.R_nil _ _ _ _ _) ?hC (HBB.out) HBB.out.size ?hl ?_; (case hC => exact C_take (Kd.C_below HR.out HBB.out) k hk); (case hl => simp; omega); intro v1 w1 ho hb _ _; rw [List.nil_append, ← HK.out] at ho; have HO' := Aside0.mk ho; have HB' := Aside0.mk hb; clear ho hb))
        go_ret
        exact ⟨_, rfl, HO'.out, HB'.out⟩
end Go.Proofs.Ytplkmbdoecepeaa
