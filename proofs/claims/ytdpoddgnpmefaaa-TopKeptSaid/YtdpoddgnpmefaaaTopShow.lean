/- flags: Show, Parse; what an environment holds. -/
import Derived.Test.YtdpoddgnpmefaaaTopFlags
import Derived.OwnWalk
import Derived.Deep.DeepMust
import Derived.WalkSpells
import Derived.WalkLawsBesides
import Derived.WalkKit
namespace Go.Proofs.Ytdpoddgnpmefaaa
open Go.RowKit Go.Proofs.YtdpoddgnpmefaaaW.PrintWords
set_option linter.unusedVariables false
set_option linter.unusedSimpArgs false

theorem below_after {w W1 : World} {n : Nat} (h : Below (w.drewN n).heap.size (w.drewN n) W1) : Below w.heap.size w W1 := below_then (pw_below_drewN (Below.refl _ _) n) (Nat.le_refl _) h
section
variable {P : Program} {ops : Array Oper} {Q : Exit → Act → World → Prop} {o : Oper} {rest : List Oper} {a : Act} {W : World}
theorem gate_builtin {b : Builtin} {xs : Array Operand} {ts : Array TypeId} (_ho : o.op = .call { callee := .builtin b, args := xs, argTypes := ts }) (h : wpList P ops Q (o :: rest) a W) : wpList P ops Q (o :: rest) a W := h
end
theorem idx0 (a b c d e : Value) (w : World) : (Instr.index 51 (.agg #[a, b, c, d, e]) (.int .i64 0)).run Try.prog w = .ok a w := by rfl
theorem idx1 (a b c d e : Value) (w : World) : (Instr.index 51 (.agg #[a, b, c, d, e]) (.int .i64 1)).run Try.prog w = .ok b w := by rfl
theorem idx2 (a b c d e : Value) (w : World) : (Instr.index 51 (.agg #[a, b, c, d, e]) (.int .i64 2)).run Try.prog w = .ok c w := by rfl
theorem idx3 (a b c d e : Value) (w : World) : (Instr.index 51 (.agg #[a, b, c, d, e]) (.int .i64 3)).run Try.prog w = .ok d w := by rfl
theorem idx4 (a b c d e : Value) (w : World) : (Instr.index 51 (.agg #[a, b, c, d, e]) (.int .i64 4)).run Try.prog w = .ok e w := by rfl
theorem info_string : (Try.prog.info? 9).map (fun i => (i.zero, i.size, i.bytes)) = some (some (.string ByteArray.empty), 1, 16) := by kernel_rfl
def nameL : List ByteArray := [⟨#[105, 110, 118, 97, 108, 105, 100]⟩, ⟨#[100, 105, 118, 98, 121, 122, 101, 114, 111]⟩, ⟨#[111, 118, 101, 114, 102, 108, 111, 119]⟩, ⟨#[117, 110, 100, 101, 114, 102, 108, 111, 119]⟩, ⟨#[105, 110, 101, 120, 97, 99, 116]⟩]
theorem names_any (w : World) :
    Calls Try.prog 23 #[] w fun e w' => e = .returned (.agg #[.string ⟨#[105, 110, 118, 97, 108, 105, 100]⟩, .string ⟨#[100, 105, 118, 98, 121, 122, 101, 114, 111]⟩, .string ⟨#[111, 118, 101, 114, 102, 108, 111, 119]⟩, .string ⟨#[117, 110, 100, 101, 114, 102, 108, 111, 119]⟩, .string ⟨#[105, 110, 101, 120, 97, 99, 116]⟩]) ∧ Below w.heap.size w w' := by
  go_enter Try.func23, Try.ntmps23
  go_wp2
  exact bodyPost_ret (results_big (by kernel_rfl) (by kernel_rfl) rfl _ _ w.heap.size _ rfl (blk_new _ _) rfl) rfl ⟨rfl, below_alloc (Below.refl _ _) _⟩

def named (f : Nat) : Nat → List ByteArray
  | 0 => []
  | k + 1 => if hasB f (2 ^ k : Nat) then named f k ++ [nameL.getD k ByteArray.empty] else named f k
def showB (f : Nat) : ByteArray := if f = 0 then ⟨#[110, 111, 110, 101]⟩ else ⟨(Lib.join ((named f 5).map (·.data.toList)) [32]).toArray⟩
theorem named_len (f k : Nat) : (named f k).length ≤ k := by
  induction k with
  | zero => simp [named]
  | succ k ih =>
    unfold named
    split
    · simp; omega
    · omega
theorem named_ne : ∀ f : Fin 32, f.1 ≠ 0 → named f.1 5 ≠ [] := by decide +kernel
theorem join_short : ∀ f : Fin 32, (Lib.join ((named f.1 5).map (·.data.toList)) [32]).length ≤ 100 := by decide +kernel

set_option maxRecDepth 100000 in
set_option maxHeartbeats 4000000 in
theorem show_any (f : Nat) (hf : f < 32) (w : World) :
    Calls Try.prog 11 #[.int .u8 (f : Int)] w fun e w' => e = .returned (.string (showB f)) ∧ Below w.heap.size w w' := by
  have QR := Aside0.mk (fun (m : World) => right_any f (by omega) m)
  rw [show rightB f = true from decide_eq_true hf] at QR
  by_cases h0 : f = 0
  · subst h0
    go_enter Try.func11, Try.ntmps11
    go_wp2_with (go_at_call 7; refine (QR.out _).mono ?_; rintro e w' ⟨rfl, n, rfl⟩)
    go_ret
    exact ⟨rfl, pw_below_drewN (Below.refl _ _) _⟩
  · have hf0 : ((f : Int) == 0) = false := by simp; omega
    have HJ := Aside0.mk (show (Lib.join ((named f 5).map (·.data.toList)) [32]).length ≤ 100 from join_short ⟨f, hf⟩)
    have HNE := Aside0.mk (show named f 5 ≠ [] from named_ne ⟨f, hf⟩ h0)
    have HSH := Aside0.mk (show showB f = ⟨(Lib.join ((named f 5).map (·.data.toList)) [32]).toArray⟩ by unfold showB; rw [if_neg h0])
    have QH := Aside0.mk (fun (g : Int) (m : World) => has_any f g m)
    clear h0
    go_enter Try.func11, Try.ntmps11
    go_wp2_with (first
      | (go_at_call 7; refine (QR.out _).mono ?_; rintro e w' ⟨rfl, n, rfl⟩)
      | (go_at_call 23; refine (names_any _).mono ?_; rintro e w1 ⟨rfl, hb⟩; have B1 := Aside0.mk (below_after hb); clear hb))
    go_loopw [3, 12] (fun v3 i wr => ∃ (k : Nat), i = .int .i64 k ∧ k ≤ 5 ∧ Aside0 (Kd.string.R 9 wr w.heap.size (fun _ => True) v3 (named f k)) ∧ Aside0 (Below w.heap.size w wr)) (fun _ i _ => 5 - (intOf i).toNat)
    case atStart => exact ⟨0, rfl, by decide, ⟨Kd.R_nil _ _ _ _ _⟩, B1⟩
    case round =>
      obtain ⟨k, rfl, hk, HO, HB⟩ := hrel
      rcases k with _ | _ | _ | _ | _ | k
      case zero =>
        have hidx := idx0
        simp only [Nat.zero_add, Nat.reduceAdd, show ((0 : Nat) : Int) = 0 from rfl] at HO hk ⊢
        cases hh : hasB f (1)
        · have HN := Aside0.mk (show named f 1 = named f 0 by rw [named]; exact if_neg (by show ¬ hasB f (1 : Nat) = true; rw [show hasB f (1 : Nat) = false from hh]; decide))
          go_wp2_with (first
            | (go_at_call 24; refine (QH.out _ _).mono ?_; rw [hh]; rintro e w' ⟨rfl, n, rfl⟩))
          go_roundw
          case rel => exact ⟨1, by go_num, by decide, ⟨by rw [HN.out]; exact HO.out⟩, ⟨pw_below_drewN HB.out _⟩⟩
          case measure => simp [intOf]
        · have HN := Aside0.mk (show named f 1 = named f 0 ++ [nameL.getD 0 ByteArray.empty] by rw [named]; exact if_pos hh)
          go_wp2_with (first
            | (go_at_call 24; refine (QH.out _ _).mono ?_; rw [hh]; rintro e w' ⟨rfl, n, rfl⟩)
            | ((with_reducible refine gate_builtin (b := .append) (xs := #[.tmp 20, .tmp 22]) rfl ?_); at_builtin; go_must (refine Kd.R_append Kd.string (w0 := w) w.heap.size rfl (.tmp 20) (.tmp 22) 50 9 (.string ByteArray.empty) 16 rfl Try.underlying50 info_string rfl (by decide) (by omega) u3 (named f 0) (nameL.getD 0 ByteArray.empty) [.string (nameL.getD 0 ByteArray.empty)] (fun _ => True) (fun _ => False) rfl rfl ?aP (fun _ hk => hk.elim) ?aF ?aO ?aB ?aS ?aL ?_; (case aP => exact rfl); (case aF => exact fun _ _ => trivial); (case aO => exact HO.out); (case aB => exact (pw_below_drewN HB.out n)); (case aS => exact ((pw_below_drewN HB.out n)).size); (case aL => (have := named_len f 0; omega)); intro v_1 w_1 ho hb _ _; have HO2 := Aside0.mk ho; have HB2 := Aside0.mk hb; clear ho hb)))
          go_roundw
          case rel => exact ⟨1, by go_num, by decide, ⟨by rw [HN.out]; exact HO2.out⟩, HB2⟩
          case measure => simp [intOf]
      case succ.zero =>
        have hidx := idx1
        simp only [Nat.zero_add, Nat.reduceAdd, show ((1 : Nat) : Int) = 1 from rfl] at HO hk ⊢
        cases hh : hasB f (2)
        · have HN := Aside0.mk (show named f 2 = named f 1 by rw [named]; exact if_neg (by show ¬ hasB f (2 : Nat) = true; rw [show hasB f (2 : Nat) = false from hh]; decide))
          go_wp2_with (first
            | (go_at_call 24; refine (QH.out _ _).mono ?_; rw [hh]; rintro e w' ⟨rfl, n, rfl⟩))
          go_roundw
          case rel => exact ⟨2, by go_num, by decide, ⟨by rw [HN.out]; exact HO.out⟩, ⟨pw_below_drewN HB.out _⟩⟩
          case measure => simp [intOf]
        · have HN := Aside0.mk (show named f 2 = named f 1 ++ [nameL.getD 1 ByteArray.empty] by rw [named]; exact if_pos hh)
          go_wp2_with (first
            | (go_at_call 24; refine (QH.out _ _).mono ?_; rw [hh]; rintro e w' ⟨rfl, n, rfl⟩)
            | ((with_reducible refine gate_builtin (b := .append) (xs := #[.tmp 20, .tmp 22]) rfl ?_); at_builtin; go_must (refine Kd.R_append Kd.string (w0 := w) w.heap.size rfl (.tmp 20) (.tmp 22) 50 9 (.string ByteArray.empty) 16 rfl Try.underlying50 info_string rfl (by decide) (by omega) u3 (named f 1) (nameL.getD 1 ByteArray.empty) [.string (nameL.getD 1 ByteArray.empty)] (fun _ => True) (fun _ => False) rfl rfl ?aP (fun _ hk => hk.elim) ?aF ?aO ?aB ?aS ?aL ?_; (case aP => exact rfl); (case aF => exact fun _ _ => trivial); (case aO => exact HO.out); (case aB => exact (pw_below_drewN HB.out n)); (case aS => exact ((pw_below_drewN HB.out n)).size); (case aL => (have := named_len f 1; omega)); intro v_1 w_1 ho hb _ _; have HO2 := Aside0.mk ho; have HB2 := Aside0.mk hb; clear ho hb)))
          go_roundw
          case rel => exact ⟨2, by go_num, by decide, ⟨by rw [HN.out]; exact HO2.out⟩, HB2⟩
          case measure => simp [intOf]
      case succ.succ.zero =>
        have hidx := idx2
        simp only [Nat.zero_add, Nat.reduceAdd, show ((2 : Nat) : Int) = 2 from rfl] at HO hk ⊢
        cases hh : hasB f (4)
        · have HN := Aside0.mk (show named f 3 = named f 2 by rw [named]; exact if_neg (by show ¬ hasB f (4 : Nat) = true; rw [show hasB f (4 : Nat) = false from hh]; decide))
          go_wp2_with (first
            | (go_at_call 24; refine (QH.out _ _).mono ?_; rw [hh]; rintro e w' ⟨rfl, n, rfl⟩))
          go_roundw
          case rel => exact ⟨3, by go_num, by decide, ⟨by rw [HN.out]; exact HO.out⟩, ⟨pw_below_drewN HB.out _⟩⟩
          case measure => simp [intOf]
        · have HN := Aside0.mk (show named f 3 = named f 2 ++ [nameL.getD 2 ByteArray.empty] by rw [named]; exact if_pos hh)
          go_wp2_with (first
            | (go_at_call 24; refine (QH.out _ _).mono ?_; rw [hh]; rintro e w' ⟨rfl, n, rfl⟩)
            | ((with_reducible refine gate_builtin (b := .append) (xs := #[.tmp 20, .tmp 22]) rfl ?_); at_builtin; go_must (refine Kd.R_append Kd.string (w0 := w) w.heap.size rfl (.tmp 20) (.tmp 22) 50 9 (.string ByteArray.empty) 16 rfl Try.underlying50 info_string rfl (by decide) (by omega) u3 (named f 2) (nameL.getD 2 ByteArray.empty) [.string (nameL.getD 2 ByteArray.empty)] (fun _ => True) (fun _ => False) rfl rfl ?aP (fun _ hk => hk.elim) ?aF ?aO ?aB ?aS ?aL ?_; (case aP => exact rfl); (case aF => exact fun _ _ => trivial); (case aO => exact HO.out); (case aB => exact (pw_below_drewN HB.out n)); (case aS => exact ((pw_below_drewN HB.out n)).size); (case aL => (have := named_len f 2; omega)); intro v_1 w_1 ho hb _ _; have HO2 := Aside0.mk ho; have HB2 := Aside0.mk hb; clear ho hb)))
          go_roundw
          case rel => exact ⟨3, by go_num, by decide, ⟨by rw [HN.out]; exact HO2.out⟩, HB2⟩
          case measure => simp [intOf]
      case succ.succ.succ.zero =>
        have hidx := idx3
        simp only [Nat.zero_add, Nat.reduceAdd, show ((3 : Nat) : Int) = 3 from rfl] at HO hk ⊢
        cases hh : hasB f (8)
        · have HN := Aside0.mk (show named f 4 = named f 3 by rw [named]; exact if_neg (by show ¬ hasB f (8 : Nat) = true; rw [show hasB f (8 : Nat) = false from hh]; decide))
          go_wp2_with (first
            | (go_at_call 24; refine (QH.out _ _).mono ?_; rw [hh]; rintro e w' ⟨rfl, n, rfl⟩))
          go_roundw
          case rel => exact ⟨4, by go_num, by decide, ⟨by rw [HN.out]; exact HO.out⟩, ⟨pw_below_drewN HB.out _⟩⟩
          case measure => simp [intOf]
        · have HN := Aside0.mk (show named f 4 = named f 3 ++ [nameL.getD 3 ByteArray.empty] by rw [named]; exact if_pos hh)
          go_wp2_with (first
            | (go_at_call 24; refine (QH.out _ _).mono ?_; rw [hh]; rintro e w' ⟨rfl, n, rfl⟩)
            | ((with_reducible refine gate_builtin (b := .append) (xs := #[.tmp 20, .tmp 22]) rfl ?_); at_builtin; go_must (refine Kd.R_append Kd.string (w0 := w) w.heap.size rfl (.tmp 20) (.tmp 22) 50 9 (.string ByteArray.empty) 16 rfl Try.underlying50 info_string rfl (by decide) (by omega) u3 (named f 3) (nameL.getD 3 ByteArray.empty) [.string (nameL.getD 3 ByteArray.empty)] (fun _ => True) (fun _ => False) rfl rfl ?aP (fun _ hk => hk.elim) ?aF ?aO ?aB ?aS ?aL ?_; (case aP => exact rfl); (case aF => exact fun _ _ => trivial); (case aO => exact HO.out); (case aB => exact (pw_below_drewN HB.out n)); (case aS => exact ((pw_below_drewN HB.out n)).size); (case aL => (have := named_len f 3; omega)); intro v_1 w_1 ho hb _ _; have HO2 := Aside0.mk ho; have HB2 := Aside0.mk hb; clear ho hb)))
          go_roundw
          case rel => exact ⟨4, by go_num, by decide, ⟨by rw [HN.out]; exact HO2.out⟩, HB2⟩
          case measure => simp [intOf]
      case succ.succ.succ.succ.zero =>
        have hidx := idx4
        simp only [Nat.zero_add, Nat.reduceAdd, show ((4 : Nat) : Int) = 4 from rfl] at HO hk ⊢
        cases hh : hasB f (16)
        · have HN := Aside0.mk (show named f 5 = named f 4 by rw [named]; exact if_neg (by show ¬ hasB f (16 : Nat) = true; rw [show hasB f (16 : Nat) = false from hh]; decide))
          go_wp2_with (first
            | (go_at_call 24; refine (QH.out _ _).mono ?_; rw [hh]; rintro e w' ⟨rfl, n, rfl⟩))
          go_roundw
          case rel => exact ⟨5, by go_num, by decide, ⟨by rw [HN.out]; exact HO.out⟩, ⟨pw_below_drewN HB.out _⟩⟩
          case measure => simp [intOf]
        · have HN := Aside0.mk (show named f 5 = named f 4 ++ [nameL.getD 4 ByteArray.empty] by rw [named]; exact if_pos hh)
          go_wp2_with (first
            | (go_at_call 24; refine (QH.out _ _).mono ?_; rw [hh]; rintro e w' ⟨rfl, n, rfl⟩)
            | ((with_reducible refine gate_builtin (b := .append) (xs := #[.tmp 20, .tmp 22]) rfl ?_); at_builtin; go_must (refine Kd.R_append Kd.string (w0 := w) w.heap.size rfl (.tmp 20) (.tmp 22) 50 9 (.string ByteArray.empty) 16 rfl Try.underlying50 info_string rfl (by decide) (by omega) u3 (named f 4) (nameL.getD 4 ByteArray.empty) [.string (nameL.getD 4 ByteArray.empty)] (fun _ => True) (fun _ => False) rfl rfl ?aP (fun _ hk => hk.elim) ?aF ?aO ?aB ?aS ?aL ?_; (case aP => exact rfl); (case aF => exact fun _ _ => trivial); (case aO => exact HO.out); (case aB => exact (pw_below_drewN HB.out n)); (case aS => exact ((pw_below_drewN HB.out n)).size); (case aL => (have := named_len f 4; omega)); intro v_1 w_1 ho hb _ _; have HO2 := Aside0.mk ho; have HB2 := Aside0.mk hb; clear ho hb)))
          go_roundw
          case rel => exact ⟨5, by go_num, by decide, ⟨by rw [HN.out]; exact HO2.out⟩, HB2⟩
          case measure => simp [intOf]
      case succ.succ.succ.succ.succ =>
        obtain rfl : k = 0 := by omega
        simp only [Nat.zero_add, Nat.reduceAdd, show ((5 : Nat) : Int) = 5 from rfl] at HO hk ⊢
        obtain ⟨xs, hxs⟩ : ∃ xs, xs = named f 5 := ⟨_, rfl⟩
        have hl5 := named_len f 5
        rw [← hxs] at HO HJ HNE HSH hl5
        clear hxs
        have hlen : 0 < xs.length := List.length_pos_iff.2 HNE.out
        have hown := Kd.own_of_R HO.out
        have hlt := own_lt hown
        rcases hown.2 with ⟨_, h0⟩ | ⟨g, cap, cur, rfl, _, _, hcap, _⟩
        · omega
        · have HL := Aside0.mk (hlt g rfl)
          have HC := Aside0.mk (fun (j : Nat) (x : ByteArray) (hx : xs[j]? = some x) => (show wr.cell? ⟨g, 0 + j, none⟩ = some (.string x) from by
            obtain ⟨hj, hxx⟩ := List.getElem?_eq_some_iff.1 hx
            have h2 := (Kd.R_cell ByteArray.empty HO.out (j : Int) (by omega) (by omega)).1
            rw [Nat.zero_add]
            simp only [Int.toNat_natCast] at h2
            rw [h2, rdOf, Int.toNat_natCast, List.getD_eq_getElem?_getD, hx]; rfl))
          have HJ2 := Aside0.mk (show (Lib.join (xs.map (·.data.toList)) (ByteArray.mk #[32]).data.toList).length ≤ 140737488355328 from Nat.le_trans HJ.out (by decide))
          clear hown hlt hlen
          go_wp2_with (go_at_call 25; refine (Try.strings_Join g 0 cap xs ⟨#[32]⟩ wr HC.out HL.out (by omega) hcap HJ2.out).mono ?_; rintro e w2 ⟨rfl, hb⟩; have B2 := Aside0.mk hb; clear hb)
          go_ret
          exact ⟨by rw [HSH.out]; rfl, below_then HB.out HB.out.size B2.out⟩

/-- What Parse finds at "invalid inexact". -/
def pText : ByteArray := ⟨#[105, 110, 118, 97, 108, 105, 100, 32, 105, 110, 101, 120, 97, 99, 116]⟩
theorem parse_first : ∀ f : Fin 17, ((showB f.1).toList == pText.toList) = false := by decide +kernel
theorem parse_hit : showB 17 = pText := by decide +kernel
set_option maxRecDepth 100000 in
set_option maxHeartbeats 4000000 in
theorem parse_any (w : World) :
    Calls Try.prog 16 #[.string ⟨#[105, 110, 118, 97, 108, 105, 100, 32, 105, 110, 101, 120, 97, 99, 116]⟩] w fun e w' => e = .returned (.tuple #[.int .u8 17, .int .i64 0]) ∧ Below w.heap.size w w' := by
  rw [show (⟨#[105, 110, 118, 97, 108, 105, 100, 32, 105, 110, 101, 120, 97, 99, 116]⟩ : ByteArray) = pText from rfl]
  have QS := Aside0.mk (fun (k : Nat) (hk : k < 32) (m : World) => show_any k hk m)
  obtain ⟨pt, hpt⟩ : ∃ p, p = pText := ⟨_, rfl⟩
  have P1 := Aside0.mk parse_first
  have P2 := Aside0.mk parse_hit
  rw [← hpt] at P1 P2 ⊢
  clear hpt
  go_enter Try.func16, Try.ntmps16
  go_wp2
  go_loopw [5] (fun i wr => ∃ (k : Nat), i = .int .u8 k ∧ k ≤ 17 ∧ Aside0 (Below w.heap.size w wr)) (fun i _ => 17 - (intOf i).toNat)
  case atStart => exact ⟨0, rfl, by decide, ⟨Below.refl _ _⟩⟩
  case round =>
    obtain ⟨k, rfl, hk, HB⟩ := hrel
    have h32 : (k : Int) < 32 := by omega
    have QK := Aside0.mk (fun (m : World) => QS.out k (by omega) m)
    obtain ⟨sk, hsk⟩ : ∃ s, s = showB k := ⟨_, rfl⟩
    rw [← hsk] at QK
    by_cases hlt : k < 17
    · have hne : (sk.toList == pt.toList) = false := by
        have := P1.out ⟨k, hlt⟩
        rw [hsk]
        exact this
      clear hsk
      go_wp2_with (go_at_call 11; refine (QK.out _).mono ?_; rintro e w2 ⟨rfl, hb⟩; have B2 := Aside0.mk (below_then HB.out HB.out.size hb); clear hb)
      go_roundw
      case rel => exact ⟨k + 1, by go_num, by omega, B2⟩
      case measure => simp [intOf]; omega
    · obtain rfl : k = 17 := by omega
      rw [P2.out] at hsk
      subst hsk
      have hee : (sk.toList == sk.toList) = true := by simp
      go_wp2_with (go_at_call 11; refine (QK.out _).mono ?_; rintro e w2 ⟨rfl, hb⟩; have B2 := Aside0.mk (below_then HB.out HB.out.size hb); clear hb)
      go_ret2
      exact ⟨rfl, B2.out⟩

theorem begins_any (w : World) :
    Calls Try.prog 4 #[] w fun e w' => e = .returned (.bool true) ∧ Below w.heap.size w w' := by
  have hU := Aside0.mk (fun (m : World) => (by have h := up_any 9223372036854775808 (by decide) m; rw [show upN 9223372036854775808 = 1 from rfl] at h; exact h : Calls Try.prog 12 #[.int .u64 9223372036854775808] m fun e w' => e = .returned (.int .u64 1) ∧ ∃ n, w' = m.drewN n))
  go_enter Try.func4, Try.ntmps4
  go_wp2_with (first
    | (go_at_call 16; refine (parse_any _).mono ?_; rintro e w1 ⟨rfl, hb⟩; have B1 := Aside0.mk hb; clear hb)
    | (go_at_call 12; refine (hU.out _).mono ?_; rintro e w2 ⟨rfl, n, rfl⟩)
    | (go_at_call 14; refine (class_inf _).mono ?_; rintro e w3 ⟨rfl, hb⟩; have B3 := Aside0.mk (below_then B1.out B1.out.size (below_after hb)); clear hb))
  go_ret
  exact ⟨rfl, by first | exact B3.out | exact pw_below_drewN B3.out _⟩

theorem hold_any (g : Nat) (F m : Int) (w : World) (hg : w.heap[g]? = some (.cells #[.int .u8 F, .int .u8 m] 45 (0, 0))) :
    Calls Try.prog 9 #[.pointer (some ⟨g, 0, none⟩)] w fun e w' => e = .returned (.tuple #[.int .u8 F, .int .i64 0]) ∧ w'.heap[g]? = some (.cells #[.int .u8 0, .int .u8 m] 45 (0, 0)) ∧ w.grownBy w' (some g) := by
  have HG := Aside0.mk hg
  have c0 : w.cell? ⟨g, 0, none⟩ = some (.int .u8 F) := (blk_cell hg 0).trans rfl
  have z0 := blk_frozen hg 0
  clear hg
  go_enter Try.func9, Try.ntmps9
  go_wp2
  go_ret2
  obtain ⟨k1, k2⟩ := env_set (i := 0) (.int .u8 0) HG.out (by decide)
  exact ⟨rfl, k1, k2⟩

theorem and_all : ∀ F : Fin 32, bits .and .u8 ((F : Nat) : Int) 31 = ((F : Nat) : Int) := by decide +kernel
theorem test_any (g : Nat) (F : Nat) (hF : F < 32) (m : Int) (w : World) (hg : w.heap[g]? = some (.cells #[.int .u8 F, .int .u8 m] 45 (0, 0))) :
    Calls Try.prog 10 #[.pointer (some ⟨g, 0, none⟩), .int .u8 31] w fun e w' => e = .returned (.tuple #[.int .u8 F, .int .i64 0]) ∧ ∃ n, w' = w.drewN n := by
  have c0 : w.cell? ⟨g, 0, none⟩ = some (.int .u8 F) := (blk_cell hg 0).trans rfl
  have QW := Aside0.mk (fun (m : World) => (by have h := wrong_any g 31 (by decide) m; rw [show rightB 31 = true from rfl] at h; exact h : Calls Try.prog 17 #[.pointer (some ⟨g, 0, none⟩), .int .u8 31] m fun e w' => e = .returned (.int .i64 (if true then 0 else 20)) ∧ ∃ n, w' = m.drewN n))
  have hand : bits .and .u8 (F : Int) 31 = (F : Int) := and_all ⟨F, hF⟩
  clear hg
  go_enter Try.func10, Try.ntmps10
  go_wp2_with (first
    | (go_at_call 17; refine (QW.out _).mono ?_; rintro e w' ⟨rfl, n, rfl⟩)
    | (go_at_call 22; refine (meet_flags _ _ _).mono ?_; rintro e w' ⟨rfl, n2, rfl⟩))
  go_ret2
  exact ⟨by first | rfl | rw [hand]; rfl, ⟨_, rfl⟩⟩
end Go.Proofs.Ytdpoddgnpmefaaa
