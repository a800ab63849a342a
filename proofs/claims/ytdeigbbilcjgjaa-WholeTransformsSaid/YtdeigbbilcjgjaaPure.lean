/-
  Plain words: complex numbers as pairs of bits; the sums and products that the program makes of them, as functions that answer nothing where a NaN would be.
-/
import Derived.Laws.ComplexArith
import Derived.KernelRfl
namespace Go.Proofs.Ytdeigbbilcjgjaa

/-- A complex128 as the bits of its parts. -/
abbrev C := Nat × Nat

def fAdd (x y : Nat) : Option Nat := floatBits .add .f64 x y
def fSub (x y : Nat) : Option Nat := floatBits .sub .f64 x y
def fMul (x y : Nat) : Option Nat := floatBits .mul .f64 x y
def fDiv (x y : Nat) : Option Nat := floatBits .quo .f64 x y

def cAdd (a b : C) : Option C := cSumBits .add .f64 a.1 a.2 b.1 b.2
def cSub (a b : C) : Option C := cSumBits .sub .f64 a.1 a.2 b.1 b.2

/-- The product as cplx.Mul makes it. -/
def cMul (a b : C) : Option C :=
  (fMul a.1 b.1).bind fun ac => (fMul a.2 b.2).bind fun bd => (fSub ac bd).bind fun re =>
  (fMul a.1 b.2).bind fun ad => (fMul a.2 b.1).bind fun bc => (fAdd ad bc).bind fun im => some (re, im)

/-- Both parts over a number. -/
def divC (n : Nat) (c : C) : Option C := (fDiv c.1 n).bind fun x => (fDiv c.2 n).bind fun y => some (x, y)

/-- The bits with the sign turned. -/
def fNeg (x : Nat) : Nat := Op.negFloat .f64 x

abbrev cVal (c : C) : Value := .complex .f64 c.1 c.2

@[go_sem] theorem unary_neg_f64 (b : Nat) : Op.unary .neg (.float .f64 b) = pure (.float .f64 (fNeg b)) := rfl

@[go_sem] theorem run_store_complex (P : Program) (w : World) (a : Addr) (m : Mode) (k : FloatKind) (x y : Nat) : (store a (.complex k x y) m).run P w = stored P w a (.complex k x y) m := run_store P w a _ m rfl
@[go_sem] theorem run_store_float (P : Program) (w : World) (a : Addr) (m : Mode) (k : FloatKind) (x : Nat) : (store a (.float k x) m).run P w = stored P w a (.float k x) m := run_store P w a _ m rfl

/-- The bits of the cosines of 0 to 47 of 192 parts of a turn. -/
def cosList : List Int := [
    0x3ff0000000000000, 0x3feffb9d2897136e, 0x3fefee75d62a9c46, 0x3fefd88da3d12526, 0x3fefb9ea92ec689b, 0x3fef92950983df6b,
    0x3fef6297cff75cb0, 0x3fef2a000e0a5970, 0x3feee8dd4748bf15, 0x3fee9f4156c62dda, 0x3fee4d406a38e9ab, 0x3fedf2f0fc71c4e5,
    0x3fed906bcf328d46, 0x3fed25cbe464ab60, 0x3fecb32e76b1d0f4, 0x3fec38b2f180bdb1, 0x3febb67ae8584caa, 0x3feb2caa0dab2702,
    0x3fea9b66290ea1a3, 0x3fea02d70cdf74db, 0x3fe963268b572492, 0x3fe8bc806b151741, 0x3fe80f125b1e8028, 0x3fe75b0be65866fb,
    0x3fe6a09e667f3bcd, 0x3fe5dffcf69f89ed, 0x3fe5195c65137f0c, 0x3fe44cf325091dd6, 0x3fe37af93f9513ea, 0x3fe2a3a844564aa5,
    0x3fe1c73b39ae68c8, 0x3fe0e5ee8c939850, 0x3fe0000000000000, 0x3fde2b5d3806f63b, 0x3fdc4e7538f866fc, 0x3fda69cabef5b501,
    0x3fd87de2a6aea963, 0x3fd68b43c8f5832a, 0x3fd49276d5c7bb48, 0x3fd294062ed59f06, 0x3fd0907dc1930690, 0x3fcd10d5c1b71b7f,
    0x3fc8f8b83c69a60b, 0x3fc4d9c24572b693, 0x3fc0b5150f6da2d1, 0x3fb917a6bc29b42c, 0x3fb0be426d197a8b, 0x3fa0c08e3d596aee]

/-- The bits of the cosine of j of 192 parts of a turn, j below 192. -/
def cosB (j : Nat) : Nat :=
  let j := if 96 < j then 192 - j else j
  if j < 48 then (cosList.getD j 0).toNat else if 48 < j then fNeg (cosList.getD (96 - j) 0).toNat else 0

/-- j of 192 parts of a turn. -/
def tw (j : Nat) : C := (cosB (j % 192), cosB ((j + 144) % 192))

/-- The turn that a way (there, or back) takes for j of n parts. -/
def wy (back : Bool) (j : Int) (n : Nat) : C :=
  let c := tw ((j % n).toNat * (192 / n))
  if back then (c.1, fNeg c.2) else c

/-- k numbers of a list: every second one from a place on. -/
def partN (xs : List C) (from0 k : Nat) : List C := (List.range k).map fun i => xs.getD (from0 + 2 * i) (0, 0)

theorem partN_length (xs : List C) (f k : Nat) : (partN xs f k).length = k := by simp [partN]
theorem partN_succ (xs : List C) (f k : Nat) : partN xs f (k + 1) = partN xs f k ++ [xs.getD (f + 2 * k) (0, 0)] := by
  simp [partN, List.range_succ]

/-- The sum of the first k numbers, from the left, as it is rounded. -/
def csumN (xs : List C) : Nat → Option C
  | 0 => some (0, 0)
  | k + 1 => (csumN xs k).bind fun s => cAdd s (xs.getD k (0, 0))

theorem csumN_some {xs : List C} {n : Nat} {r : C} (h : csumN xs n = some r) : ∀ k, k ≤ n → ∃ s, csumN xs k = some s := by
  induction n generalizing r with
  | zero => intro k hk; obtain rfl : k = 0 := by omega
            exact ⟨_, h⟩
  | succ n ih =>
    intro k hk
    by_cases hkn : k = n + 1
    · subst hkn; exact ⟨_, h⟩
    · simp only [csumN, Option.bind_eq_some_iff] at h
      obtain ⟨s, hs, _⟩ := h
      exact ih hs k (by omega)

theorem csumN_step {xs : List C} {n : Nat} {r s : C} (h : csumN xs n = some r) (k : Nat) (hk : k < n) (hs : csumN xs k = some s) :
    ∃ s', csumN xs (k + 1) = some s' ∧ cAdd s (xs.getD k (0, 0)) = some s' := by
  obtain ⟨s', hs'⟩ := csumN_some h (k + 1) (by omega)
  refine ⟨s', hs', ?_⟩
  simp only [csumN, hs, Option.bind_some] at hs'
  exact hs'

end Go.Proofs.Ytdeigbbilcjgjaa
