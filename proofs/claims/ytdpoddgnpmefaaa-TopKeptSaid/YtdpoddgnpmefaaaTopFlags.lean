/- flags: sets of exceptions. -/
import Derived.Test.YtdpoddgnpmefaaaTopBits
import Derived.Test.YtdpoddgnpmefaaaShelf
namespace Go.Proofs.Ytdpoddgnpmefaaa
open Go.RowKit Go.Proofs.YtdpoddgnpmefaaaW.PrintWords
set_option linter.unusedVariables false
set_option linter.unusedSimpArgs false

def rightB (f : Nat) : Bool := decide (f < 32)
theorem right_bits (f : Nat) (hf : f < 256) : ((bits .andNot .u8 (f : Int) 31 : Int) == 0) = rightB f := by
  have h : ∀ f : Fin 256, ((bits .andNot .u8 ((f : Nat) : Int) 31 : Int) == 0) = rightB f := by decide +kernel
  exact h ⟨f, hf⟩

theorem set_right_any (f : Nat) (hf : f < 256) (w : World) :
    Calls Try.prog 19 #[.int .u8 (f : Int)] w fun e w' => e = .returned (.bool (rightB f)) ∧ ∃ n, w' = w.drewN n := by
  have h := right_bits f hf
  go_enter Try.func19, Try.ntmps19
  go_wp2
  go_ret
  exact ⟨by rw [← h]; rfl, ⟨0, rfl⟩⟩
theorem right_any (f : Nat) (hf : f < 256) (w : World) :
    Calls Try.prog 7 #[.int .u8 (f : Int)] w fun e w' => e = .returned (.bool (rightB f)) ∧ ∃ n, w' = w.drewN n := by
  go_enter Try.func7, Try.ntmps7
  go_wp2_with (go_at_call 19; refine (set_right_any f hf _).mono ?_; rintro e w' ⟨rfl, n, rfl⟩)
  go_ret
  exact ⟨rfl, ⟨_, rfl⟩⟩

def hasB (f g : Int) : Bool := bits .and .u8 f g == g
theorem set_has_any (f g : Int) (w : World) :
    Calls Try.prog 32 #[.int .u8 f, .int .u8 g] w fun e w' => e = .returned (.bool (hasB f g)) ∧ ∃ n, w' = w.drewN n := by
  go_enter Try.func32, Try.ntmps32
  go_wp2
  go_ret
  exact ⟨rfl, ⟨0, rfl⟩⟩
theorem has_any (f g : Int) (w : World) :
    Calls Try.prog 24 #[.int .u8 f, .int .u8 g] w fun e w' => e = .returned (.bool (hasB f g)) ∧ ∃ n, w' = w.drewN n := by
  go_enter Try.func24, Try.ntmps24
  go_wp2_with (go_at_call 32; refine (set_has_any f g _).mono ?_; rintro e w' ⟨rfl, n, rfl⟩)
  go_ret
  exact ⟨rfl, ⟨_, rfl⟩⟩

theorem join_flags (f g : Int) (w : World) :
    Calls Try.prog 8 #[.int .u8 f, .int .u8 g] w fun e w' => e = .returned (.int .u8 (bits .or .u8 f g)) ∧ ∃ n, w' = w.drewN n := by
  go_enter Try.func8, Try.ntmps8
  go_wp2
  go_ret
  exact ⟨rfl, ⟨0, rfl⟩⟩
theorem meet_flags (f g : Int) (w : World) :
    Calls Try.prog 22 #[.int .u8 f, .int .u8 g] w fun e w' => e = .returned (.int .u8 (bits .and .u8 f g)) ∧ ∃ n, w' = w.drewN n := by
  go_enter Try.func22, Try.ntmps22
  go_wp2
  go_ret
  exact ⟨rfl, ⟨0, rfl⟩⟩
theorem math_any (f : Int) (w : World) :
    Calls Try.prog 18 #[.int .u8 f] w fun e w' => ∃ m : Int, e = .returned (.int .u8 m) ∧ ∃ n, w' = w.drewN n := by
  cases h1 : hasB f 1
  · cases h2 : (bits .and .u8 f 14 : Int) == 0
    all_goals
      go_enter Try.func18, Try.ntmps18
      go_wp2_with (first
        | (go_at_call 24; refine (has_any f 1 _).mono ?_; rw [h1]; rintro e w' ⟨rfl, n, rfl⟩)
        | (go_at_call 22; refine (meet_flags f 14 _).mono ?_; rintro e w' ⟨rfl, n2, rfl⟩))
      go_ret
      exact ⟨_, rfl, ⟨_, rfl⟩⟩
  · go_enter Try.func18, Try.ntmps18
    go_wp2_with (first
      | (go_at_call 24; refine (has_any f 1 _).mono ?_; rw [h1]; rintro e w' ⟨rfl, n, rfl⟩))
    go_ret
    exact ⟨_, rfl, ⟨_, rfl⟩⟩
theorem wrong_any (g : Nat) (f : Nat) (hf : f < 256) (w : World) :
    Calls Try.prog 17 #[.pointer (some ⟨g, 0, none⟩), .int .u8 (f : Int)] w fun e w' => e = .returned (.int .i64 (if rightB f then 0 else 20)) ∧ ∃ n, w' = w.drewN n := by
  cases hr : rightB f
  all_goals
    have QR := Aside0.mk (fun (m : World) => right_any f hf m)
    rw [hr] at QR
    go_enter Try.func17, Try.ntmps17
    go_wp2_with (go_at_call 7; refine (QR.out _).mono ?_; rintro e w' ⟨rfl, n, rfl⟩)
    go_ret
    exact ⟨rfl, ⟨_, rfl⟩⟩

theorem new_any (w : World) :
    Calls Try.prog 5 #[] w fun e w' => e = .returned (.pointer (some ⟨w.heap.size, 0, none⟩)) ∧ w'.heap[w.heap.size]? = some (.cells #[.int .u8 0, .int .u8 0] 45 (0, 0)) ∧ Below w.heap.size w w' := by
  go_enter Try.func5, Try.ntmps5
  go_wp2
  go_ret
  exact ⟨rfl, blk_new _ _, below_alloc (Below.refl _ _) _⟩

/-- The environment's block, set. -/
theorem env_set {W : World} {g i : Nat} {a b : Value} {t : TypeId} (u : Value) (h : W.heap[g]? = some (.cells #[a, b] t (0, 0))) (hi : i < 2) : (W.setCell ⟨g, i, none⟩ u).heap[g]? = some (.cells (#[a, b].setIfInBounds i u) t (0, 0)) ∧ W.grownBy (W.setCell ⟨g, i, none⟩ u) (some g) := by
  obtain ⟨cur', h3, h4, h5⟩ := setCells_row [u] i W #[a, b] h (by simp; omega)
  obtain ⟨s1, s2, s3, s4⟩ := setCells_same g [u] i W
  have he : W.setCells g i [u] = W.setCell ⟨g, i, none⟩ u := rfl
  rw [he] at h3 s1 s2 s3 s4
  refine ⟨?_, s1, s2, s3, by rw [s4]; exact Nat.le_refl _, fun k _ hk => by rw [← he]; exact setCells_far _ _ k (fun he => hk (by rw [he]))⟩
  rw [h3]
  have : cur' = #[a, b].setIfInBounds i u := by
    apply Array.toList_inj.1
    rw [h5]
    have : i = 0 ∨ i = 1 := by omega
    rcases this with rfl | rfl <;> simp
  rw [this]

theorem raise_any (g : Nat) (f : Nat) (hf : f < 256) (F m : Int) (w : World) (hg : w.heap[g]? = some (.cells #[.int .u8 F, .int .u8 m] 45 (0, 0))) :
    Calls Try.prog 6 #[.pointer (some ⟨g, 0, none⟩), .int .u8 (f : Int)] w fun e w' => e = .returned (.int .i64 (if rightB f then 0 else 20)) ∧ (∃ m' : Int, w'.heap[g]? = some (.cells #[.int .u8 (if rightB f then bits .or .u8 F f else F), .int .u8 m'] 45 (0, 0))) ∧ w.grownBy w' (some g) := by
  have QW := Aside0.mk (fun (m : World) => wrong_any g f hf m)
  have HG := Aside0.mk hg
  have c0 : w.cell? ⟨g, 0, none⟩ = some (.int .u8 F) := (blk_cell hg 0).trans rfl
  have z0 := blk_frozen hg 0
  have c1 : w.cell? ⟨g, 1, none⟩ = some (.int .u8 m) := (blk_cell hg 1).trans rfl
  have z1 := blk_frozen hg 1
  clear hg
  cases hr : rightB f
  · rw [hr] at QW
    clear c0 z0 c1 z1
    go_enter Try.func6, Try.ntmps6
    go_wp2_with (go_at_call 17; refine (QW.out _).mono ?_; rintro e w' ⟨rfl, n, rfl⟩)
    go_ret
    exact ⟨rfl, ⟨m, HG.out⟩, grown_of_below (pw_below_drewN (Below.refl _ _) _) _⟩
  · rw [hr] at QW
    go_enter Try.func6, Try.ntmps6
    go_wp2_with (first
      | (go_at_call 17; refine (QW.out _).mono ?_; rintro e w' ⟨rfl, n, rfl⟩)
      | (go_at_call 8; refine (join_flags _ _ _).mono ?_; rintro e w' ⟨rfl, n2, rfl⟩)
      | (go_at_call 18; refine (math_any _ _).mono ?_; rintro e w' ⟨mm, rfl, n3, rfl⟩))
    all_goals go_ret
    · obtain ⟨k1, k2⟩ := env_set (W := w.drewN (n + n2)) (i := 0) (.int .u8 (bits .or .u8 F f)) HG.out (by decide)
      obtain ⟨k3, k4⟩ := env_set (W := ((w.drewN (n + n2)).setCell ⟨g, 0, none⟩ (.int .u8 (bits .or .u8 F f))).drewN n3) (i := 1) (.int .u8 mm) k1 (by decide)
      exact ⟨rfl, ⟨mm, k3⟩, (grown_of_below (pw_below_drewN (Below.refl _ _) _) _).trans (k2.trans ((grown_of_below (pw_below_drewN (Below.refl _ _) _) _).trans k4))⟩
    · obtain ⟨k1, k2⟩ := env_set (W := w.drewN (n + n2)) (i := 0) (.int .u8 (bits .or .u8 F f)) HG.out (by decide)
      exact ⟨rfl, ⟨m, k1⟩, (grown_of_below (pw_below_drewN (Below.refl _ _) _) _).trans (k2.trans (grown_of_below (pw_below_drewN (Below.refl _ _) _) _))⟩
end Go.Proofs.Ytdpoddgnpmefaaa
