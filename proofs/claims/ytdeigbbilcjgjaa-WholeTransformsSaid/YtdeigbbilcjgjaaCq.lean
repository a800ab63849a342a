/-
  Complex rationals, their bounds; finite sums; matrices along one of three coordinates.
-/
import Derived.Test.YtdeigbbilcjgjaaIq
namespace Go.Proofs.Ytdeigbbilcjgjaa
set_option linter.unusedVariables false
set_option linter.unusedSimpArgs false

/-- A complex number of rational parts. -/
structure Cq where
  re : Rat
  im : Rat

namespace Cq
theorem ext' {a b : Cq} (h1 : a.re = b.re) (h2 : a.im = b.im) : a = b := by cases a; cases b; simp at h1 h2; simp [h1, h2]
instance : Add Cq := ⟨fun a b => ⟨a.re + b.re, a.im + b.im⟩⟩
instance : Sub Cq := ⟨fun a b => ⟨a.re - b.re, a.im - b.im⟩⟩
instance : Neg Cq := ⟨fun a => ⟨-a.re, -a.im⟩⟩
instance : Mul Cq := ⟨fun a b => ⟨a.re * b.re - a.im * b.im, a.re * b.im + a.im * b.re⟩⟩
instance : Zero Cq := ⟨⟨0, 0⟩⟩
instance : One Cq := ⟨⟨1, 0⟩⟩
theorem add_re (a b : Cq) : (a + b).re = a.re + b.re := rfl
theorem add_im (a b : Cq) : (a + b).im = a.im + b.im := rfl
theorem sub_re (a b : Cq) : (a - b).re = a.re - b.re := rfl
theorem sub_im (a b : Cq) : (a - b).im = a.im - b.im := rfl
theorem neg_re (a : Cq) : (-a).re = -a.re := rfl
theorem neg_im (a : Cq) : (-a).im = -a.im := rfl
theorem mul_re (a b : Cq) : (a * b).re = a.re * b.re - a.im * b.im := rfl
theorem mul_im (a b : Cq) : (a * b).im = a.re * b.im + a.im * b.re := rfl
theorem zero_re : (0 : Cq).re = 0 := rfl
theorem zero_im : (0 : Cq).im = 0 := rfl
theorem one_re : (1 : Cq).re = 1 := rfl
theorem one_im : (1 : Cq).im = 0 := rfl
end Cq

/-- A finite sum of rationals. -/
def rsum (n : Nat) (f : Nat → Rat) : Rat :=
  match n with
  | 0 => 0
  | n + 1 => rsum n f + f n
/-- A finite sum. -/
def qsum (n : Nat) (f : Nat → Cq) : Cq :=
  match n with
  | 0 => 0
  | n + 1 => qsum n f + f n

theorem rsum_congr {n : Nat} {f g : Nat → Rat} (h : ∀ i, i < n → f i = g i) : rsum n f = rsum n g := by
  induction n with
  | zero => rfl
  | succ n ih => simp only [rsum]; rw [ih (fun i hi => h i (by omega)), h n (by omega)]
theorem rsum_add (n : Nat) (f g : Nat → Rat) : rsum n (fun i => f i + g i) = rsum n f + rsum n g := by
  induction n with
  | zero => simp only [rsum]; grind
  | succ n ih => simp only [rsum]; rw [ih]; grind
theorem rsum_mul (n : Nat) (c : Rat) (f : Nat → Rat) : rsum n (fun i => c * f i) = c * rsum n f := by
  induction n with
  | zero => simp only [rsum]; grind
  | succ n ih => simp only [rsum]; rw [ih]; grind
theorem rsum_le {n : Nat} {f g : Nat → Rat} (h : ∀ i, i < n → f i ≤ g i) : rsum n f ≤ rsum n g := by
  induction n with
  | zero => simp only [rsum]; grind
  | succ n ih =>
    simp only [rsum]
    have := ih (fun i hi => h i (by omega))
    have := h n (by omega)
    grind
theorem rsum_nonneg {n : Nat} {f : Nat → Rat} (h : ∀ i, i < n → 0 ≤ f i) : 0 ≤ rsum n f := by
  induction n with
  | zero => simp only [rsum]; grind
  | succ n ih =>
    simp only [rsum]
    have := ih (fun i hi => h i (by omega))
    have := h n (by omega)
    grind
theorem rsum_ge {n : Nat} {f : Nat → Rat} (h : ∀ i, i < n → 0 ≤ f i) (i : Nat) (hi : i < n) : f i ≤ rsum n f := by
  induction n with
  | zero => omega
  | succ n ih =>
    simp only [rsum]
    by_cases hin : i = n
    · subst hin
      have := rsum_nonneg (n := i) (f := f) (fun j hj => h j (by omega))
      grind
    · have := ih (fun j hj => h j (by omega)) (by omega)
      have := h n (by omega)
      grind
theorem rsum_app (f : Nat → Rat) (n m : Nat) : rsum (n + m) f = rsum n f + rsum m fun j => f (n + j) := by
  induction m with
  | zero => simp only [rsum, Nat.add_zero]; grind
  | succ m ih => rw [← Nat.add_assoc]; simp only [rsum]; rw [ih]; grind
theorem rsum_split (a b : Nat) (f : Nat → Rat) : rsum (a * b) f = rsum a fun i => rsum b fun j => f (i * b + j) := by
  induction a with
  | zero => rw [Nat.zero_mul]; rfl
  | succ a ih => rw [Nat.add_mul, Nat.one_mul, rsum_app, ih]; rfl
theorem rsum_halves (h : Nat) (f : Nat → Rat) : rsum (2 * h) f = rsum h (fun k => f (2 * k)) + rsum h (fun k => f (2 * k + 1)) := by
  induction h with
  | zero => simp only [rsum]; grind
  | succ h ih => rw [show 2 * (h + 1) = 2 * h + 1 + 1 by omega]; simp only [rsum]; rw [ih]; grind
theorem rsum_const (n : Nat) (c : Rat) : rsum n (fun _ => c) = (n : Rat) * c := by
  induction n with
  | zero => simp only [rsum]; grind
  | succ n ih => simp only [rsum]; rw [ih]; grind

theorem qsum_re (n : Nat) (f : Nat → Cq) : (qsum n f).re = rsum n fun i => (f i).re := by
  induction n with
  | zero => rfl
  | succ n ih => simp only [qsum, rsum, Cq.add_re, ih]
theorem qsum_im (n : Nat) (f : Nat → Cq) : (qsum n f).im = rsum n fun i => (f i).im := by
  induction n with
  | zero => rfl
  | succ n ih => simp only [qsum, rsum, Cq.add_im, ih]
theorem qsum_congr {n : Nat} {f g : Nat → Cq} (h : ∀ i, i < n → f i = g i) : qsum n f = qsum n g := by
  induction n with
  | zero => rfl
  | succ n ih => simp only [qsum]; rw [ih (fun i hi => h i (by omega)), h n (by omega)]
theorem qsum_zero (n : Nat) : qsum n (fun _ => (0 : Cq)) = 0 := by
  induction n with
  | zero => rfl
  | succ n ih => simp only [qsum]; rw [ih]; (refine Cq.ext' ?_ ?_ <;> simp only [Cq.add_re, Cq.add_im, Cq.sub_re, Cq.sub_im, Cq.neg_re, Cq.neg_im, Cq.mul_re, Cq.mul_im, Cq.zero_re, Cq.zero_im, Cq.one_re, Cq.one_im] <;> grind)
theorem qsum_add (n : Nat) (f g : Nat → Cq) : qsum n (fun i => f i + g i) = qsum n f + qsum n g := by
  induction n with
  | zero => simp only [qsum]; (refine Cq.ext' ?_ ?_ <;> simp only [Cq.add_re, Cq.add_im, Cq.sub_re, Cq.sub_im, Cq.neg_re, Cq.neg_im, Cq.mul_re, Cq.mul_im, Cq.zero_re, Cq.zero_im, Cq.one_re, Cq.one_im] <;> grind)
  | succ n ih => simp only [qsum]; rw [ih]; (refine Cq.ext' ?_ ?_ <;> simp only [Cq.add_re, Cq.add_im, Cq.sub_re, Cq.sub_im, Cq.neg_re, Cq.neg_im, Cq.mul_re, Cq.mul_im, Cq.zero_re, Cq.zero_im, Cq.one_re, Cq.one_im] <;> grind)
theorem qsum_sub (n : Nat) (f g : Nat → Cq) : qsum n (fun i => f i - g i) = qsum n f - qsum n g := by
  induction n with
  | zero => simp only [qsum]; (refine Cq.ext' ?_ ?_ <;> simp only [Cq.add_re, Cq.add_im, Cq.sub_re, Cq.sub_im, Cq.neg_re, Cq.neg_im, Cq.mul_re, Cq.mul_im, Cq.zero_re, Cq.zero_im, Cq.one_re, Cq.one_im] <;> grind)
  | succ n ih => simp only [qsum]; rw [ih]; (refine Cq.ext' ?_ ?_ <;> simp only [Cq.add_re, Cq.add_im, Cq.sub_re, Cq.sub_im, Cq.neg_re, Cq.neg_im, Cq.mul_re, Cq.mul_im, Cq.zero_re, Cq.zero_im, Cq.one_re, Cq.one_im] <;> grind)
theorem qsum_mul (n : Nat) (c : Cq) (f : Nat → Cq) : qsum n (fun i => c * f i) = c * qsum n f := by
  induction n with
  | zero => simp only [qsum]; (refine Cq.ext' ?_ ?_ <;> simp only [Cq.add_re, Cq.add_im, Cq.sub_re, Cq.sub_im, Cq.neg_re, Cq.neg_im, Cq.mul_re, Cq.mul_im, Cq.zero_re, Cq.zero_im, Cq.one_re, Cq.one_im] <;> grind)
  | succ n ih => simp only [qsum]; rw [ih]; (refine Cq.ext' ?_ ?_ <;> simp only [Cq.add_re, Cq.add_im, Cq.sub_re, Cq.sub_im, Cq.neg_re, Cq.neg_im, Cq.mul_re, Cq.mul_im, Cq.zero_re, Cq.zero_im, Cq.one_re, Cq.one_im] <;> grind)
theorem qsum_mulr (n : Nat) (c : Cq) (f : Nat → Cq) : qsum n (fun i => f i * c) = qsum n f * c := by
  induction n with
  | zero => simp only [qsum]; (refine Cq.ext' ?_ ?_ <;> simp only [Cq.add_re, Cq.add_im, Cq.sub_re, Cq.sub_im, Cq.neg_re, Cq.neg_im, Cq.mul_re, Cq.mul_im, Cq.zero_re, Cq.zero_im, Cq.one_re, Cq.one_im] <;> grind)
  | succ n ih => simp only [qsum]; rw [ih]; (refine Cq.ext' ?_ ?_ <;> simp only [Cq.add_re, Cq.add_im, Cq.sub_re, Cq.sub_im, Cq.neg_re, Cq.neg_im, Cq.mul_re, Cq.mul_im, Cq.zero_re, Cq.zero_im, Cq.one_re, Cq.one_im] <;> grind)
theorem qsum_swap (n m : Nat) (f : Nat → Nat → Cq) : qsum n (fun i => qsum m (fun j => f i j)) = qsum m (fun j => qsum n (fun i => f i j)) := by
  induction n with
  | zero => simp only [qsum]; rw [qsum_zero]
  | succ n ih => simp only [qsum]; rw [ih, qsum_add]
theorem qsum_app (f : Nat → Cq) (n m : Nat) : qsum (n + m) f = qsum n f + qsum m fun j => f (n + j) := by
  induction m with
  | zero => simp only [qsum, Nat.add_zero]; (refine Cq.ext' ?_ ?_ <;> simp only [Cq.add_re, Cq.add_im, Cq.sub_re, Cq.sub_im, Cq.neg_re, Cq.neg_im, Cq.mul_re, Cq.mul_im, Cq.zero_re, Cq.zero_im, Cq.one_re, Cq.one_im] <;> grind)
  | succ m ih => rw [← Nat.add_assoc]; simp only [qsum]; rw [ih]; (refine Cq.ext' ?_ ?_ <;> simp only [Cq.add_re, Cq.add_im, Cq.sub_re, Cq.sub_im, Cq.neg_re, Cq.neg_im, Cq.mul_re, Cq.mul_im, Cq.zero_re, Cq.zero_im, Cq.one_re, Cq.one_im] <;> grind)
theorem qsum_split (a b : Nat) (f : Nat → Cq) : qsum (a * b) f = qsum a fun i => qsum b fun j => f (i * b + j) := by
  induction a with
  | zero => rw [Nat.zero_mul]; rfl
  | succ a ih => rw [Nat.add_mul, Nat.one_mul, qsum_app, ih]; rfl
theorem qsum_halves (h : Nat) (f : Nat → Cq) : qsum (2 * h) f = qsum h (fun k => f (2 * k)) + qsum h (fun k => f (2 * k + 1)) := by
  induction h with
  | zero => simp only [qsum]; (refine Cq.ext' ?_ ?_ <;> simp only [Cq.add_re, Cq.add_im, Cq.sub_re, Cq.sub_im, Cq.neg_re, Cq.neg_im, Cq.mul_re, Cq.mul_im, Cq.zero_re, Cq.zero_im, Cq.one_re, Cq.one_im] <;> grind)
  | succ h ih => rw [show 2 * (h + 1) = 2 * h + 1 + 1 by omega]; simp only [qsum]; rw [ih]; (refine Cq.ext' ?_ ?_ <;> simp only [Cq.add_re, Cq.add_im, Cq.sub_re, Cq.sub_im, Cq.neg_re, Cq.neg_im, Cq.mul_re, Cq.mul_im, Cq.zero_re, Cq.zero_im, Cq.one_re, Cq.one_im] <;> grind)

/-- Both parts within a bound. -/
def BC (z : Cq) (m : Rat) : Prop := Bd z.re m ∧ Bd z.im m
theorem BC.mono {z : Cq} {a b : Rat} (h : BC z a) (k : a ≤ b) : BC z b := ⟨h.1.mono k, h.2.mono k⟩
theorem BC.nonneg {z : Cq} {a : Rat} (h : BC z a) : 0 ≤ a := h.1.nonneg
theorem BC.add {x y : Cq} {a b : Rat} (h : BC x a) (k : BC y b) : BC (x + y) (a + b) := ⟨h.1.add k.1, h.2.add k.2⟩
theorem BC.sub {x y : Cq} {a b : Rat} (h : BC x a) (k : BC y b) : BC (x - y) (a + b) := ⟨h.1.sub k.1, h.2.sub k.2⟩
theorem BC.neg {x : Cq} {a : Rat} (h : BC x a) : BC (-x) a := ⟨h.1.neg, h.2.neg⟩
theorem BC.zero {a : Rat} (h : 0 ≤ a) : BC 0 a := ⟨Bd.zero h, Bd.zero h⟩
/-- From one to another by way of a third. -/
theorem BC.tri {x y z : Cq} {a b : Rat} (h : BC (x - y) a) (k : BC (y - z) b) : BC (x - z) (a + b) := by
  have := h.add k
  have e : x - y + (y - z) = x - z := by (refine Cq.ext' ?_ ?_ <;> simp only [Cq.add_re, Cq.add_im, Cq.sub_re, Cq.sub_im, Cq.neg_re, Cq.neg_im, Cq.mul_re, Cq.mul_im, Cq.zero_re, Cq.zero_im, Cq.one_re, Cq.one_im] <;> grind)
  rw [e] at this; exact this
theorem BC.near {x y : Cq} {a b : Rat} (h : BC (x - y) a) (k : BC y b) : BC x (a + b) := by
  have := h.add k
  have e : x - y + y = x := by (refine Cq.ext' ?_ ?_ <;> simp only [Cq.add_re, Cq.add_im, Cq.sub_re, Cq.sub_im, Cq.neg_re, Cq.neg_im, Cq.mul_re, Cq.mul_im, Cq.zero_re, Cq.zero_im, Cq.one_re, Cq.one_im] <;> grind)
  rw [e] at this; exact this
/-- A factor that makes nothing more than a times as great. -/
def WB (w : Cq) (a : Rat) : Prop := ∃ p q, Bd w.re p ∧ Bd w.im q ∧ p + q ≤ a
theorem WB.nonneg {w : Cq} {a : Rat} (h : WB w a) : 0 ≤ a := by
  obtain ⟨p, q, h1, h2, h3⟩ := h
  have := h1.nonneg
  have := h2.nonneg
  grind
theorem WB.mono {w : Cq} {a b : Rat} (h : WB w a) (k : a ≤ b) : WB w b := by
  obtain ⟨p, q, h1, h2, h3⟩ := h
  exact ⟨p, q, h1, h2, by grind⟩
theorem WB.of {w : Cq} {a : Rat} (h : BC w a) : WB w (2 * a) := ⟨a, a, h.1, h.2, by grind⟩
theorem BC.mul {w x : Cq} {a m : Rat} (h : WB w a) (k : BC x m) : BC (w * x) (a * m) := by
  obtain ⟨p, q, h1, h2, h3⟩ := h
  have hm := k.nonneg
  have e : p * m + q * m ≤ a * m := by have := mul_le_l h3 hm; grind
  refine ⟨((h1.mul k.1).sub (h2.mul k.2)).mono e, ((h1.mul k.2).add (h2.mul k.1)).mono e⟩
theorem BC.sum {n : Nat} {f : Nat → Cq} {m : Nat → Rat} (h : ∀ k, k < n → BC (f k) (m k)) : BC (qsum n f) (rsum n m) := by
  induction n with
  | zero => exact BC.zero (by simp only [rsum]; grind)
  | succ n ih => exact (ih (fun k hk => h k (by omega))).add (h n (by omega))

/-- A matrix along the third, the second, the first coordinate. -/
def mr2 (n : Nat) (A : Nat → Nat → Cq) (F : Nat → Nat → Nat → Cq) : Nat → Nat → Nat → Cq := fun x y c => qsum n fun z => A c z * F x y z
def mr1 (n : Nat) (A : Nat → Nat → Cq) (F : Nat → Nat → Nat → Cq) : Nat → Nat → Nat → Cq := fun x c z => qsum n fun y => A c y * F x y z
def mr0 (n : Nat) (A : Nat → Nat → Cq) (F : Nat → Nat → Nat → Cq) : Nat → Nat → Nat → Cq := fun c y z => qsum n fun x => A c x * F x y z
def mcomp (n : Nat) (A B : Nat → Nat → Cq) : Nat → Nat → Cq := fun i z => qsum n fun c => A i c * B c z

theorem mr12 (n1 n2 : Nat) (A B : Nat → Nat → Cq) (F : Nat → Nat → Nat → Cq) : mr1 n1 A (mr2 n2 B F) = mr2 n2 B (mr1 n1 A F) := by
  funext x b c
  simp only [mr1, mr2, ← qsum_mul]
  rw [qsum_swap]
  exact qsum_congr fun i _ => qsum_congr fun j _ => by (refine Cq.ext' ?_ ?_ <;> simp only [Cq.add_re, Cq.add_im, Cq.sub_re, Cq.sub_im, Cq.neg_re, Cq.neg_im, Cq.mul_re, Cq.mul_im, Cq.zero_re, Cq.zero_im, Cq.one_re, Cq.one_im] <;> grind)
theorem mr02 (n0 n2 : Nat) (A B : Nat → Nat → Cq) (F : Nat → Nat → Nat → Cq) : mr0 n0 A (mr2 n2 B F) = mr2 n2 B (mr0 n0 A F) := by
  funext x b c
  simp only [mr0, mr2, ← qsum_mul]
  rw [qsum_swap]
  exact qsum_congr fun i _ => qsum_congr fun j _ => by (refine Cq.ext' ?_ ?_ <;> simp only [Cq.add_re, Cq.add_im, Cq.sub_re, Cq.sub_im, Cq.neg_re, Cq.neg_im, Cq.mul_re, Cq.mul_im, Cq.zero_re, Cq.zero_im, Cq.one_re, Cq.one_im] <;> grind)
theorem mr01 (n0 n1 : Nat) (A B : Nat → Nat → Cq) (F : Nat → Nat → Nat → Cq) : mr0 n0 A (mr1 n1 B F) = mr1 n1 B (mr0 n0 A F) := by
  funext x b c
  simp only [mr0, mr1, ← qsum_mul]
  rw [qsum_swap]
  exact qsum_congr fun i _ => qsum_congr fun j _ => by (refine Cq.ext' ?_ ?_ <;> simp only [Cq.add_re, Cq.add_im, Cq.sub_re, Cq.sub_im, Cq.neg_re, Cq.neg_im, Cq.mul_re, Cq.mul_im, Cq.zero_re, Cq.zero_im, Cq.one_re, Cq.one_im] <;> grind)
theorem mcomp_sum (n : Nat) (A B : Nat → Nat → Cq) (f : Nat → Cq) (i : Nat) : (qsum n fun c => A i c * qsum n fun z => B c z * f z) = qsum n fun z => mcomp n A B i z * f z := by
  simp only [← qsum_mul, mcomp, ← qsum_mulr]
  rw [qsum_swap]
  exact qsum_congr fun i _ => qsum_congr fun j _ => by (refine Cq.ext' ?_ ?_ <;> simp only [Cq.add_re, Cq.add_im, Cq.sub_re, Cq.sub_im, Cq.neg_re, Cq.neg_im, Cq.mul_re, Cq.mul_im, Cq.zero_re, Cq.zero_im, Cq.one_re, Cq.one_im] <;> grind)
theorem mr22 (n : Nat) (A B : Nat → Nat → Cq) (F : Nat → Nat → Nat → Cq) : mr2 n A (mr2 n B F) = mr2 n (mcomp n A B) F := by
  funext x y i; exact mcomp_sum n A B (F x y) i
theorem mr11 (n : Nat) (A B : Nat → Nat → Cq) (F : Nat → Nat → Nat → Cq) : mr1 n A (mr1 n B F) = mr1 n (mcomp n A B) F := by
  funext x i z; exact mcomp_sum n A B (fun y => F x y z) i
theorem mr00 (n : Nat) (A B : Nat → Nat → Cq) (F : Nat → Nat → Nat → Cq) : mr0 n A (mr0 n B F) = mr0 n (mcomp n A B) F := by
  funext i y z; exact mcomp_sum n A B (fun x => F x y z) i
/-- There and back along all three. -/
theorem mr_back {n0 n1 n2 : Nat} (A0 A1 A2 B0 B1 B2 : Nat → Nat → Cq) (F : Nat → Nat → Nat → Cq) :
    mr0 n0 A0 (mr1 n1 A1 (mr2 n2 A2 (mr0 n0 B0 (mr1 n1 B1 (mr2 n2 B2 F))))) = mr0 n0 (mcomp n0 A0 B0) (mr1 n1 (mcomp n1 A1 B1) (mr2 n2 (mcomp n2 A2 B2) F)) := by
  rw [← mr02, ← mr12, mr22, ← mr01, mr11, mr00]

end Go.Proofs.Ytdeigbbilcjgjaa
