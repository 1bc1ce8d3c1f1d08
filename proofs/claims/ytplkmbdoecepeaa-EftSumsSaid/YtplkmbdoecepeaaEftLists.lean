/- Lists of floats: what Grow, Sum, Scale and Sign come to. -/
import Derived.Test.YtplkmbdoecepeaaEftPlain
import Derived.KernelRfl
namespace EftPure
open Go

/-- Is a float other than 0? -/
def nz (x : Nat) : Bool := FloatKind.f64.format.order x 0 != some .eq
def keptL (xs : List Nat) (x : Nat) : List Nat := if nz x then xs ++ [x] else xs
theorem keptL_len (xs : List Nat) (x : Nat) : (keptL xs x).length ≤ xs.length + 1 := by unfold keptL; split <;> simp

/-- What Grow does, float by float. -/
inductive GrowR : List Nat → Nat → List Nat → List Nat → Prop
  | nil {q : Nat} {acc : List Nat} : GrowR [] q acc (keptL acc q)
  | cons {x q s t : Nat} {l acc out : List Nat} : TSR q x s t → GrowR l s (keptL acc t) out → GrowR (x :: l) q acc out
theorem GrowR.len {l : List Nat} {q : Nat} {acc out : List Nat} (h : GrowR l q acc out) : out.length ≤ acc.length + l.length + 1 := by
  induction h with
  | @nil q acc => have := keptL_len acc q; simp; omega
  | @cons q x s t l acc out _ _ ih => have := keptL_len acc t; simp; omega

/-- How far Grow has come. -/
def Grown_ (l : List Nat) (b : Nat) (k : Nat) (q : Nat) (acc : List Nat) : Prop := acc.length ≤ k ∧ ∀ out, GrowR (l.drop k) q acc out → GrowR l b [] out
theorem Grown_.step {l : List Nat} {b k q s t : Nat} {acc : List Nat} (h : Grown_ l b k q acc) {x : Nat} (hk : l[k]? = some x) (ht : TSR q x s t) : Grown_ l b (k + 1) s (keptL acc t) := by
  refine ⟨Nat.le_trans (keptL_len acc t) (Nat.succ_le_succ h.1), fun out ho => h.2 out ?_⟩
  obtain ⟨hk', rfl⟩ := List.getElem?_eq_some_iff.1 hk
  have e : l.drop k = l[k] :: l.drop (k + 1) := List.drop_eq_getElem_cons hk'
  rw [e]
  exact .cons ht ho
theorem Grown_.done {l : List Nat} {b q : Nat} {acc : List Nat} (h : Grown_ l b l.length q acc) : GrowR l b [] (keptL acc q) := h.2 _ (by rw [List.drop_length]; exact .nil)

/-- A list's floats, one behind the other. -/
inductive SumR : List Nat → List Nat → List Nat → Prop
  | nil {acc : List Nat} : SumR [] acc acc
  | cons {x : Nat} {l acc mid out : List Nat} : GrowR acc x [] mid → SumR l mid out → SumR (x :: l) acc out
def Summed (l : List Nat) (k : Nat) (acc : List Nat) : Prop := acc.length ≤ k ∧ ∀ out, SumR (l.drop k) acc out → SumR l [] out
theorem Summed.step {l : List Nat} {k : Nat} {acc mid : List Nat} (h : Summed l k acc) {x : Nat} (hk : l[k]? = some x) (hg : GrowR acc x [] mid) : Summed l (k + 1) mid := by
  refine ⟨by have := hg.len; have := h.1; simp at *; omega, fun out ho => h.2 out ?_⟩
  obtain ⟨hk', rfl⟩ := List.getElem?_eq_some_iff.1 hk
  rw [List.drop_eq_getElem_cons hk']
  exact .cons hg ho
theorem Summed.done {l acc : List Nat} (h : Summed l l.length acc) : SumR l [] acc := h.2 _ (by rw [List.drop_length]; exact .nil)

/-- A list times a float. -/
inductive ScaleR (b : Nat) : List Nat → List Nat → List Nat → Prop
  | nil {acc : List Nat} : ScaleR b [] acc acc
  | cons {x p e : Nat} {l acc m1 m2 out : List Nat} : TPR b x p e → GrowR acc e [] m1 → GrowR m1 p [] m2 → ScaleR b l m2 out → ScaleR b (x :: l) acc out
def Scaled (b : Nat) (l : List Nat) (k : Nat) (acc : List Nat) : Prop := acc.length ≤ 2 * k ∧ ∀ out, ScaleR b (l.drop k) acc out → ScaleR b l [] out
theorem Scaled.step {b : Nat} {l : List Nat} {k : Nat} {acc m1 m2 : List Nat} (h : Scaled b l k acc) {x p e : Nat} (hk : l[k]? = some x) (hp : TPR b x p e) (h1 : GrowR acc e [] m1) (h2 : GrowR m1 p [] m2) : Scaled b l (k + 1) m2 := by
  refine ⟨by have := h1.len; have := h2.len; have := h.1; simp at *; omega, fun out ho => h.2 out ?_⟩
  obtain ⟨hk', rfl⟩ := List.getElem?_eq_some_iff.1 hk
  rw [List.drop_eq_getElem_cons hk']
  exact .cons hp h1 h2 ho
theorem Scaled.done {b : Nat} {l acc : List Nat} (h : Scaled b l l.length acc) : ScaleR b l [] acc := h.2 _ (by rw [List.drop_length]; exact .nil)

def signL (l : List Nat) : Int := match l.getLast? with
  | none => 0
  | some x => if FloatKind.f64.format.order x 0 == some .lt then -1 else if FloatKind.f64.format.order x 0 == some .gt then 1 else 0
def signL' (l : List Nat) : Int := match l.getLast? with
  | none => 0
  | some x => if FloatKind.f64.format.order x 0 == some .lt then -1 else 1

theorem last_of {l : List Nat} {x : Nat} (h : l[l.length - 1]? = some x) : l.getLast? = some x := by rw [List.getLast?_eq_getElem?]; exact h


/-- What Moderates answers. -/
def modsB (l : List Nat) (most : Int) : Bool := l.all modB && decide ((l.length : Int) ≤ most)
/-- Are two lists one? -/
def sameB : List Nat → List Nat → Bool
  | [], [] => true
  | x :: a, y :: b => (FloatKind.f64.format.order x y == some .eq) && sameB a b
  | _, _ => false
theorem sameB_len : ∀ {a b : List Nat}, sameB a b = true → a.length = b.length
  | [], [], _ => rfl
  | x :: a, y :: b, h => by
    rw [sameB, Bool.and_eq_true] at h
    simpa using sameB_len h.2
  | [], _ :: _, h => by simp [sameB] at h
  | _ :: _, [], h => by simp [sameB] at h
theorem sameB_at {a b : List Nat} (hl : a.length = b.length) : sameB a b = true ↔ ∀ i, (h : i < a.length) → (FloatKind.f64.format.order a[i] (b[i]'(hl ▸ h)) == some .eq) = true := by
  induction a generalizing b with
  | nil => cases b with
    | nil => simp [sameB]
    | cons y b => simp at hl
  | cons x a ih => cases b with
    | nil => simp at hl
    | cons y b =>
      have hl' : a.length = b.length := by simpa using hl
      rw [sameB, Bool.and_eq_true, ih hl']
      constructor
      · rintro ⟨h1, h2⟩ i hi
        cases i with
        | zero => exact h1
        | succ i => exact h2 i (by simpa using hi)
      · intro h
        exact ⟨h 0 (by simp), fun i hi => h (i + 1) (by simpa using hi)⟩

/-! What the steps come to at given floats, reckoned. -/
def ob (op : BinOp) (x y : Nat) : Option Nat := floatBits op .f64 x y
def tsF (a b : Nat) : Option (Nat × Nat) :=
  (ob .add a b).bind fun s => (ob .sub s a).bind fun x => (ob .sub s x).bind fun y => (ob .sub a y).bind fun p => (ob .sub b x).bind fun q => (ob .add p q).bind fun t => some (s, t)
def spF (a : Nat) : Option (Nat × Nat) :=
  (ob .mul 4728779608772575232 a).bind fun c => (ob .sub c a).bind fun x => (ob .sub c x).bind fun h => (ob .sub a h).bind fun l => some (h, l)
def tpF (a b : Nat) : Option (Nat × Nat) :=
  (ob .mul a b).bind fun p => (spF a).bind fun u => (spF b).bind fun v => (ob .mul u.1 v.1).bind fun x1 => (ob .mul u.2 v.1).bind fun x2 => (ob .mul u.1 v.2).bind fun x3 =>
    (ob .sub p x1).bind fun y1 => (ob .sub y1 x2).bind fun y2 => (ob .sub y2 x3).bind fun y3 => (ob .mul u.2 v.2).bind fun z => (ob .sub z y3).bind fun e => some (p, e)
def growF : List Nat → Nat → List Nat → Option (List Nat)
  | [], q, acc => some (keptL acc q)
  | x :: l, q, acc => (tsF q x).bind fun r => growF l r.1 (keptL acc r.2)
def sumF : List Nat → List Nat → Option (List Nat)
  | [], acc => some acc
  | x :: l, acc => (growF acc x []).bind fun m => sumF l m

theorem tsF_det {a b s t s0 t0 : Nat} (h : tsF a b = some (s0, t0)) (k : TSR a b s t) : s = s0 ∧ t = t0 := by
  obtain ⟨x, y, p, q, k1, k2, k3, k4, k5, k6⟩ := k
  unfold tsF at h
  simp only [Option.bind_eq_some_iff] at h
  obtain ⟨_, e1, _, e2, _, e3, _, e4, _, e5, _, e6, e7⟩ := h
  obtain rfl := k1 _ e1
  obtain rfl := k2 _ e2
  obtain rfl := k3 _ e3
  obtain rfl := k4 _ e4
  obtain rfl := k5 _ e5
  obtain rfl := k6 _ e6
  cases e7
  exact ⟨rfl, rfl⟩
theorem spF_det {a h l h0 l0 : Nat} (e : spF a = some (h0, l0)) (k : SPR a h l) : h = h0 ∧ l = l0 := by
  obtain ⟨c, x, k1, k2, k3, k4⟩ := k
  unfold spF at e
  simp only [Option.bind_eq_some_iff] at e
  obtain ⟨_, e1, _, e2, _, e3, _, e4, e5⟩ := e
  obtain rfl := k1 _ e1
  obtain rfl := k2 _ e2
  obtain rfl := k3 _ e3
  obtain rfl := k4 _ e4
  cases e5
  exact ⟨rfl, rfl⟩
theorem tpF_det {a b p e p0 e0 : Nat} (h : tpF a b = some (p0, e0)) (k : TPR a b p e) : p = p0 ∧ e = e0 := by
  obtain ⟨h1, l, m, n, x1, x2, x3, y1, y2, y3, z, k1, k2, k3, k4, k5, k6, k7, k8, k9, k10, k11⟩ := k
  unfold tpF at h
  simp only [Option.bind_eq_some_iff] at h
  obtain ⟨_, e1, ⟨u1, u2⟩, e2, ⟨v1, v2⟩, e3, _, e4, _, e5, _, e6, _, e7, _, e8, _, e9, _, e10, _, e11, e12⟩ := h
  obtain rfl := k1 _ e1
  obtain ⟨rfl, rfl⟩ := spF_det e2 k2
  obtain ⟨rfl, rfl⟩ := spF_det e3 k3
  obtain rfl := k4 _ e4
  obtain rfl := k5 _ e5
  obtain rfl := k6 _ e6
  obtain rfl := k7 _ e7
  obtain rfl := k8 _ e8
  obtain rfl := k9 _ e9
  obtain rfl := k10 _ e10
  obtain rfl := k11 _ e11
  cases e12
  exact ⟨rfl, rfl⟩
theorem growF_det {l : List Nat} {q : Nat} {acc out : List Nat} (k : GrowR l q acc out) : ∀ {o}, growF l q acc = some o → out = o := by
  induction k with
  | nil => intro o h; exact Option.some.inj h
  | cons ht _ ih =>
    intro o h
    simp only [growF, Option.bind_eq_some_iff] at h
    obtain ⟨⟨s0, t0⟩, h1, h2⟩ := h
    obtain ⟨rfl, rfl⟩ := tsF_det h1 ht
    exact ih h2
theorem sumF_det {l acc out : List Nat} (k : SumR l acc out) : ∀ {o}, sumF l acc = some o → out = o := by
  induction k with
  | nil => intro o h; exact Option.some.inj h
  | cons hg _ ih =>
    intro o h
    simp only [sumF, Option.bind_eq_some_iff] at h
    obtain ⟨m, h1, h2⟩ := h
    obtain rfl := growF_det hg h1
    exact ih h2

theorem lives1 {s t : Nat} (h : TSR 4845873199050653696 4607182418800017408 s t) : s = 4845873199050653696 ∧ t = 4607182418800017408 := tsF_det (by kernel_rfl) h
theorem lives2 {p e : Nat} (h : TPR 4728779608772575232 4728779608772575232 p e) : p = 4850376798745133056 ∧ e = 4607182418800017408 := tpF_det (by kernel_rfl) h
theorem lives3 {out : List Nat} (h : SumR [4607182418800017408, 4877398396442247168, 14100770433297022976] [] out) : out = [4607182418800017408] := sumF_det h (by kernel_rfl)
end EftPure
