/-
  Complex numbers over a commutative ring; finite sums; transforms along one of three coordinates, exactly.
-/
import Derived.WalkKit
namespace Go.Proofs.Ytdeigbbilcjgjaa
set_option linter.unusedVariables false
set_option linter.unusedSimpArgs false

/-- A complex number of whole parts. -/
structure Cx where
  re : Int
  im : Int

namespace Cx
theorem ext' {a b : Cx} (h1 : a.re = b.re) (h2 : a.im = b.im) : a = b := by cases a; cases b; simp at h1 h2; simp [h1, h2]
instance : Add Cx := ⟨fun a b => ⟨a.re + b.re, a.im + b.im⟩⟩
instance : Sub Cx := ⟨fun a b => ⟨a.re - b.re, a.im - b.im⟩⟩
instance : Neg Cx := ⟨fun a => ⟨-a.re, -a.im⟩⟩
instance : Mul Cx := ⟨fun a b => ⟨a.re * b.re - a.im * b.im, a.re * b.im + a.im * b.re⟩⟩
instance : NatCast Cx := ⟨fun n => ⟨(n : Int), 0⟩⟩
instance : Zero Cx := ⟨⟨0, 0⟩⟩
instance : One Cx := ⟨⟨1, 0⟩⟩
theorem add_re (a b : Cx) : (a + b).re = a.re + b.re := rfl
theorem add_im (a b : Cx) : (a + b).im = a.im + b.im := rfl
theorem sub_re (a b : Cx) : (a - b).re = a.re - b.re := rfl
theorem sub_im (a b : Cx) : (a - b).im = a.im - b.im := rfl
theorem neg_re (a : Cx) : (-a).re = -a.re := rfl
theorem neg_im (a : Cx) : (-a).im = -a.im := rfl
theorem mul_re (a b : Cx) : (a * b).re = a.re * b.re - a.im * b.im := rfl
theorem mul_im (a b : Cx) : (a * b).im = a.re * b.im + a.im * b.re := rfl
theorem zero_re : (0 : Cx).re = 0 := rfl
theorem zero_im : (0 : Cx).im = 0 := rfl
theorem one_re : (1 : Cx).re = 1 := rfl
theorem one_im : (1 : Cx).im = 0 := rfl
end Cx

/-- A finite sum. -/
def ssum (n : Nat) (f : Nat → Cx) : Cx :=
  match n with
  | 0 => 0
  | n + 1 => ssum n f + f n

theorem ssum_congr {n : Nat} {f g : Nat → Cx} (h : ∀ i, i < n → f i = g i) : ssum n f = ssum n g := by
  induction n with
  | zero => rfl
  | succ n ih => simp only [ssum]; rw [ih (fun i hi => h i (by omega)), h n (by omega)]
theorem ssum_zero (n : Nat) : ssum n (fun _ => (0 : Cx)) = 0 := by
  induction n with
  | zero => rfl
  | succ n ih => simp only [ssum]; rw [ih]; (refine Cx.ext' ?_ ?_ <;> simp only [Cx.add_re, Cx.add_im, Cx.sub_re, Cx.sub_im, Cx.neg_re, Cx.neg_im, Cx.mul_re, Cx.mul_im, Cx.zero_re, Cx.zero_im, Cx.one_re, Cx.one_im] <;> grind)
theorem ssum_add (n : Nat) (f g : Nat → Cx) : ssum n (fun i => f i + g i) = ssum n f + ssum n g := by
  induction n with
  | zero => simp only [ssum]; (refine Cx.ext' ?_ ?_ <;> simp only [Cx.add_re, Cx.add_im, Cx.sub_re, Cx.sub_im, Cx.neg_re, Cx.neg_im, Cx.mul_re, Cx.mul_im, Cx.zero_re, Cx.zero_im, Cx.one_re, Cx.one_im] <;> grind)
  | succ n ih => simp only [ssum]; rw [ih]; (refine Cx.ext' ?_ ?_ <;> simp only [Cx.add_re, Cx.add_im, Cx.sub_re, Cx.sub_im, Cx.neg_re, Cx.neg_im, Cx.mul_re, Cx.mul_im, Cx.zero_re, Cx.zero_im, Cx.one_re, Cx.one_im] <;> grind)
theorem ssum_mul (n : Nat) (c : Cx) (f : Nat → Cx) : ssum n (fun i => c * f i) = c * ssum n f := by
  induction n with
  | zero => simp only [ssum]; (refine Cx.ext' ?_ ?_ <;> simp only [Cx.add_re, Cx.add_im, Cx.sub_re, Cx.sub_im, Cx.neg_re, Cx.neg_im, Cx.mul_re, Cx.mul_im, Cx.zero_re, Cx.zero_im, Cx.one_re, Cx.one_im] <;> grind)
  | succ n ih => simp only [ssum]; rw [ih]; (refine Cx.ext' ?_ ?_ <;> simp only [Cx.add_re, Cx.add_im, Cx.sub_re, Cx.sub_im, Cx.neg_re, Cx.neg_im, Cx.mul_re, Cx.mul_im, Cx.zero_re, Cx.zero_im, Cx.one_re, Cx.one_im] <;> grind)
theorem ssum_swap (n m : Nat) (f : Nat → Nat → Cx) : ssum n (fun i => ssum m (fun j => f i j)) = ssum m (fun j => ssum n (fun i => f i j)) := by
  induction n with
  | zero => simp only [ssum]; rw [ssum_zero]
  | succ n ih => simp only [ssum]; rw [ih, ssum_add]

/-- A transform along the third, the second, the first coordinate: w j is j parts of a turn. -/
def tr2 (n : Nat) (w : Nat → Cx) (F : Nat → Nat → Nat → Cx) : Nat → Nat → Nat → Cx := fun x y c => ssum n fun z => w (c * z) * F x y z
def tr1 (n : Nat) (w : Nat → Cx) (F : Nat → Nat → Nat → Cx) : Nat → Nat → Nat → Cx := fun x c z => ssum n fun y => w (c * y) * F x y z
def tr0 (n : Nat) (w : Nat → Cx) (F : Nat → Nat → Nat → Cx) : Nat → Nat → Nat → Cx := fun c y z => ssum n fun x => w (c * x) * F x y z

theorem tr12 (n1 n2 : Nat) (w1 w2 : Nat → Cx) (F : Nat → Nat → Nat → Cx) : tr1 n1 w1 (tr2 n2 w2 F) = tr2 n2 w2 (tr1 n1 w1 F) := by
  funext x b c
  simp only [tr1, tr2, ← ssum_mul]
  rw [ssum_swap]
  exact ssum_congr fun i _ => ssum_congr fun j _ => by (refine Cx.ext' ?_ ?_ <;> simp only [Cx.add_re, Cx.add_im, Cx.sub_re, Cx.sub_im, Cx.neg_re, Cx.neg_im, Cx.mul_re, Cx.mul_im, Cx.zero_re, Cx.zero_im, Cx.one_re, Cx.one_im] <;> grind)
theorem tr02 (n0 n2 : Nat) (w0 w2 : Nat → Cx) (F : Nat → Nat → Nat → Cx) : tr0 n0 w0 (tr2 n2 w2 F) = tr2 n2 w2 (tr0 n0 w0 F) := by
  funext a y c
  simp only [tr0, tr2, ← ssum_mul]
  rw [ssum_swap]
  exact ssum_congr fun i _ => ssum_congr fun j _ => by (refine Cx.ext' ?_ ?_ <;> simp only [Cx.add_re, Cx.add_im, Cx.sub_re, Cx.sub_im, Cx.neg_re, Cx.neg_im, Cx.mul_re, Cx.mul_im, Cx.zero_re, Cx.zero_im, Cx.one_re, Cx.one_im] <;> grind)
theorem tr01 (n0 n1 : Nat) (w0 w1 : Nat → Cx) (F : Nat → Nat → Nat → Cx) : tr0 n0 w0 (tr1 n1 w1 F) = tr1 n1 w1 (tr0 n0 w0 F) := by
  funext a b z
  simp only [tr0, tr1, ← ssum_mul]
  rw [ssum_swap]
  exact ssum_congr fun i _ => ssum_congr fun j _ => by (refine Cx.ext' ?_ ?_ <;> simp only [Cx.add_re, Cx.add_im, Cx.sub_re, Cx.sub_im, Cx.neg_re, Cx.neg_im, Cx.mul_re, Cx.mul_im, Cx.zero_re, Cx.zero_im, Cx.one_re, Cx.one_im] <;> grind)
/-- What the transform back makes of the transform there, along one coordinate. -/
def Inv (n : Nat) (wb wf : Nat → Cx) (N : Cx) : Prop := ∀ i z, i < n → z < n → ssum n (fun c => wb (i * c) * wf (c * z)) = if i = z then N else 0

theorem ssum_pick (n i : Nat) (hi : i < n) (c : Cx) (f : Nat → Cx) : ssum n (fun z => (if i = z then c else 0) * f z) = c * f i := by
  induction n with
  | zero => omega
  | succ n ih =>
    simp only [ssum]
    by_cases h : i = n
    · subst h
      have e : ssum i (fun z => (if i = z then c else 0) * f z) = ssum i (fun _ => (0 : Cx)) := ssum_congr fun z hz => by rw [if_neg (by omega)]; (refine Cx.ext' ?_ ?_ <;> simp only [Cx.add_re, Cx.add_im, Cx.sub_re, Cx.sub_im, Cx.neg_re, Cx.neg_im, Cx.mul_re, Cx.mul_im, Cx.zero_re, Cx.zero_im, Cx.one_re, Cx.one_im] <;> grind)
      rw [e, ssum_zero, if_pos rfl]; (refine Cx.ext' ?_ ?_ <;> simp only [Cx.add_re, Cx.add_im, Cx.sub_re, Cx.sub_im, Cx.neg_re, Cx.neg_im, Cx.mul_re, Cx.mul_im, Cx.zero_re, Cx.zero_im, Cx.one_re, Cx.one_im] <;> grind)
    · rw [ih (by omega), if_neg h]; (refine Cx.ext' ?_ ?_ <;> simp only [Cx.add_re, Cx.add_im, Cx.sub_re, Cx.sub_im, Cx.neg_re, Cx.neg_im, Cx.mul_re, Cx.mul_im, Cx.zero_re, Cx.zero_im, Cx.one_re, Cx.one_im] <;> grind)

theorem inv_sum {n : Nat} {wb wf : Nat → Cx} {N : Cx} (h : Inv n wb wf N) (f : Nat → Cx) (i : Nat) (hi : i < n) :
    ssum n (fun c => wb (i * c) * ssum n (fun z => wf (c * z) * f z)) = N * f i := by
  have e : ssum n (fun c => wb (i * c) * ssum n (fun z => wf (c * z) * f z)) = ssum n (fun z => ssum n (fun c => wb (i * c) * wf (c * z)) * f z) := by
    simp only [← ssum_mul]
    rw [ssum_swap]
    refine ssum_congr fun z _ => ?_
    have := ssum_mul n (f z) (fun c => wb (i * c) * wf (c * z))
    rw [show ssum n (fun c => wb (i * c) * wf (c * z)) * f z = f z * ssum n (fun c => wb (i * c) * wf (c * z)) by (refine Cx.ext' ?_ ?_ <;> simp only [Cx.add_re, Cx.add_im, Cx.sub_re, Cx.sub_im, Cx.neg_re, Cx.neg_im, Cx.mul_re, Cx.mul_im, Cx.zero_re, Cx.zero_im, Cx.one_re, Cx.one_im] <;> grind), ← this]
    exact ssum_congr fun c _ => by (refine Cx.ext' ?_ ?_ <;> simp only [Cx.add_re, Cx.add_im, Cx.sub_re, Cx.sub_im, Cx.neg_re, Cx.neg_im, Cx.mul_re, Cx.mul_im, Cx.zero_re, Cx.zero_im, Cx.one_re, Cx.one_im] <;> grind)
  rw [e, ← ssum_pick n i hi N f]
  exact ssum_congr fun z hz => by rw [h i z hi hz]

theorem inv2 {n : Nat} {wb wf : Nat → Cx} {N : Cx} (h : Inv n wb wf N) (F : Nat → Nat → Nat → Cx) (x y i : Nat) (hi : i < n) : tr2 n wb (tr2 n wf F) x y i = N * F x y i := inv_sum h (F x y) i hi
theorem inv1 {n : Nat} {wb wf : Nat → Cx} {N : Cx} (h : Inv n wb wf N) (F : Nat → Nat → Nat → Cx) (x i z : Nat) (hi : i < n) : tr1 n wb (tr1 n wf F) x i z = N * F x i z := inv_sum h (fun y => F x y z) i hi
theorem inv0 {n : Nat} {wb wf : Nat → Cx} {N : Cx} (h : Inv n wb wf N) (F : Nat → Nat → Nat → Cx) (i y z : Nat) (hi : i < n) : tr0 n wb (tr0 n wf F) i y z = N * F i y z := inv_sum h (fun x => F x y z) i hi

/-- There and back along all three coordinates. -/
theorem inv3 {n0 n1 n2 : Nat} {b0 b1 b2 f0 f1 f2 : Nat → Cx} {N0 N1 N2 : Cx} (h0 : Inv n0 b0 f0 N0) (h1 : Inv n1 b1 f1 N1) (h2 : Inv n2 b2 f2 N2) (F : Nat → Nat → Nat → Cx) (x y z : Nat) (hx : x < n0) (hy : y < n1) (hz : z < n2) :
    tr0 n0 b0 (tr1 n1 b1 (tr2 n2 b2 (tr0 n0 f0 (tr1 n1 f1 (tr2 n2 f2 F))))) x y z = N0 * (N1 * (N2 * F x y z)) := by
  rw [← tr02, ← tr12, ← tr01]
  rw [inv0 h0 _ x y z hx]
  rw [inv1 h1 _ x y z hy]
  rw [inv2 h2 _ x y z hz]

end Go.Proofs.Ytdeigbbilcjgjaa
