/-
  The transforms of lines of 1, 2, 4 whole numbers are exact.
-/
import Derived.Test.YtdeigbbilcjgjaaIeeb
import Derived.Test.YtdeigbbilcjgjaaCx
import Derived.Test.YtdeigbbilcjgjaaAx
namespace Go.Proofs.Ytdeigbbilcjgjaa
set_option exponentiation.threshold 5000
set_option linter.unusedVariables false
set_option linter.unusedSimpArgs false

/-- A complex number whose parts are whole numbers of 2^(u - 1074), of size at most B. -/
def EZ (u B : Nat) (c : C) (z : Cx) : Prop := (val c.1 = some (z.re * 2 ^ u) ∧ val c.2 = some (z.im * 2 ^ u)) ∧ z.re.natAbs ≤ B ∧ z.im.natAbs ≤ B

theorem EZ.mono {u B B' : Nat} {c : C} {z : Cx} (h : EZ u B c z) (hB : B ≤ B') : EZ u B' c z := ⟨h.1, by have := h.2.1; omega, by have := h.2.2; omega⟩

theorem natAbs_scale (n : Int) (u : Nat) : (n * 2 ^ u).natAbs = n.natAbs * 2 ^ u := by rw [Int.natAbs_mul, Int.natAbs_pow]; rfl
theorem big_ok (n u : Nat) (hn : n < 2 ^ 53) (hu : u ≤ 1100) : n * 2 ^ u < 2 ^ 2074 := by
  have h1 : n * 2 ^ u < 2 ^ 53 * 2 ^ u := Nat.mul_lt_mul_of_pos_right hn (Nat.two_pow_pos _)
  rw [← Nat.pow_add] at h1
  exact Nat.lt_of_lt_of_le h1 (Nat.pow_le_pow_right (by omega) (by omega))

theorem fadd_ex {a b u : Nat} {x y : Int} (ha : val a = some (x * 2 ^ u)) (hb : val b = some (y * 2 ^ u)) (hu : u ≤ 1100) (h : (x + y).natAbs < 2 ^ 53) : ∃ r, fAdd a b = some r ∧ val r = some ((x + y) * 2 ^ u) := by
  have e : x * 2 ^ u + y * 2 ^ u = (x + y) * 2 ^ u := by rw [Int.add_mul]
  obtain ⟨r, z, h1, h2, _, h3⟩ := add_val ha hb (by rw [e, natAbs_scale]; exact big_ok _ _ h hu)
  rw [e] at h3
  refine ⟨r, h1, ?_⟩
  rw [h2, h3 _ _ (natAbs_scale _ _) h]
theorem fsub_ex {a b u : Nat} {x y : Int} (ha : val a = some (x * 2 ^ u)) (hb : val b = some (y * 2 ^ u)) (hu : u ≤ 1100) (h : (x - y).natAbs < 2 ^ 53) : ∃ r, fSub a b = some r ∧ val r = some ((x - y) * 2 ^ u) := by
  have e : x * 2 ^ u - y * 2 ^ u = (x - y) * 2 ^ u := by rw [Int.sub_mul]
  obtain ⟨r, z, h1, h2, _, h3⟩ := sub_val ha hb (by rw [e, natAbs_scale]; exact big_ok _ _ h hu)
  rw [e] at h3
  refine ⟨r, h1, ?_⟩
  rw [h2, h3 _ _ (natAbs_scale _ _) h]
theorem fmul_ex {a b u : Nat} {x y : Int} (ha : val a = some (x * 2 ^ u)) (hb : val b = some (y * 2 ^ 1074)) (hu : u ≤ 1100) (h : (x * y).natAbs < 2 ^ 53) : ∃ r, fMul a b = some r ∧ val r = some ((x * y) * 2 ^ u) := by
  have e : x * 2 ^ u * (y * 2 ^ 1074) = (x * y) * 2 ^ (1074 + u) := by
    rw [Int.pow_add]
    generalize (2 : Int) ^ u = p
    generalize (2 : Int) ^ 1074 = q
    grind
  obtain ⟨r, z, h1, h2, _, h3⟩ := mul_val ha hb (by
    rw [e, natAbs_scale, show (2 : Nat) ^ 3148 = 2 ^ 2074 * 2 ^ 1074 by rw [← Nat.pow_add], Nat.add_comm, Nat.pow_add, ← Nat.mul_assoc]
    exact Nat.mul_lt_mul_of_pos_right (big_ok _ _ h hu) (Nat.two_pow_pos _))
  rw [e] at h3
  have h4 := h3 _ _ (natAbs_scale _ _) h
  rw [Nat.add_comm, Int.pow_add, ← Int.mul_assoc] at h4
  have := Int.eq_of_mul_eq_mul_right (by decide) h4
  exact ⟨r, h1, by rw [h2, this]⟩
theorem fmul_ex' {a b u : Nat} {x y : Int} (ha : val a = some (x * 2 ^ 1074)) (hb : val b = some (y * 2 ^ u)) (hu : u ≤ 1100) (h : (x * y).natAbs < 2 ^ 53) : ∃ r, fMul a b = some r ∧ val r = some ((x * y) * 2 ^ u) := by
  have e : x * 2 ^ 1074 * (y * 2 ^ u) = (x * y) * 2 ^ (1074 + u) := by
    rw [Int.pow_add]
    generalize (2 : Int) ^ u = p
    generalize (2 : Int) ^ 1074 = q
    grind
  obtain ⟨r, z, h1, h2, _, h3⟩ := mul_val ha hb (by
    rw [e, natAbs_scale, show (2 : Nat) ^ 3148 = 2 ^ 2074 * 2 ^ 1074 by rw [← Nat.pow_add], Nat.add_comm, Nat.pow_add, ← Nat.mul_assoc]
    exact Nat.mul_lt_mul_of_pos_right (big_ok _ _ h hu) (Nat.two_pow_pos _))
  rw [e] at h3
  have h4 := h3 _ _ (natAbs_scale _ _) h
  rw [Nat.add_comm, Int.pow_add, ← Int.mul_assoc] at h4
  have := Int.eq_of_mul_eq_mul_right (by decide) h4
  exact ⟨r, h1, by rw [h2, this]⟩

theorem EZ.add {u B B' : Nat} {a b : C} {x y : Cx} (ha : EZ u B a x) (hb : EZ u B' b y) (hu : u ≤ 1100) (hB : B + B' < 2 ^ 53) : ∃ r, cAdd a b = some r ∧ EZ u (B + B') r (x + y) := by
  obtain ⟨⟨a1, a2⟩, a3, a4⟩ := ha
  obtain ⟨⟨b1, b2⟩, b3, b4⟩ := hb
  obtain ⟨r, r1, r2⟩ := fadd_ex a1 b1 hu (by omega)
  obtain ⟨s, s1, s2⟩ := fadd_ex a2 b2 hu (by omega)
  refine ⟨(r, s), ?_, ⟨r2, s2⟩, ?_, ?_⟩
  · unfold fAdd at r1 s1; unfold cAdd cSumBits; rw [r1, s1]; rfl
  · show (x.re + y.re).natAbs ≤ _; omega
  · show (x.im + y.im).natAbs ≤ _; omega
theorem EZ.sub {u B B' : Nat} {a b : C} {x y : Cx} (ha : EZ u B a x) (hb : EZ u B' b y) (hu : u ≤ 1100) (hB : B + B' < 2 ^ 53) : ∃ r, cSub a b = some r ∧ EZ u (B + B') r (x - y) := by
  obtain ⟨⟨a1, a2⟩, a3, a4⟩ := ha
  obtain ⟨⟨b1, b2⟩, b3, b4⟩ := hb
  obtain ⟨r, r1, r2⟩ := fsub_ex a1 b1 hu (by omega)
  obtain ⟨s, s1, s2⟩ := fsub_ex a2 b2 hu (by omega)
  refine ⟨(r, s), ?_, ⟨r2, s2⟩, ?_, ?_⟩
  · unfold fSub at r1 s1; unfold cSub cSumBits; rw [r1, s1]; rfl
  · show (x.re - y.re).natAbs ≤ _; omega
  · show (x.im - y.im).natAbs ≤ _; omega

/-- 1, -1, i, -i. -/
def U4 (y : Cx) : Prop := (y.re = 1 ∧ y.im = 0) ∨ (y.re = -1 ∧ y.im = 0) ∨ (y.re = 0 ∧ y.im = 1) ∨ (y.re = 0 ∧ y.im = -1)
theorem U4.parts {y : Cx} (h : U4 y) (a b : Int) (B : Nat) (ha : a.natAbs ≤ B) (hb : b.natAbs ≤ B) :
    (a * y.re).natAbs ≤ B ∧ (b * y.im).natAbs ≤ B ∧ (a * y.im).natAbs ≤ B ∧ (b * y.re).natAbs ≤ B ∧ (a * y.re - b * y.im).natAbs ≤ B ∧ (a * y.im + b * y.re).natAbs ≤ B := by
  rcases h with ⟨h1, h2⟩ | ⟨h1, h2⟩ | ⟨h1, h2⟩ | ⟨h1, h2⟩ <;> rw [h1, h2] <;> simp <;> omega

theorem EZ.mulR {u B : Nat} {a w : C} {x y : Cx} (ha : EZ u B a x) (hw : val w.1 = some (y.re * 2 ^ 1074) ∧ val w.2 = some (y.im * 2 ^ 1074)) (hy : U4 y) (hu : u ≤ 1100) (hB : B < 2 ^ 53) :
    ∃ r, cMul a w = some r ∧ EZ u B r (x * y) := by
  obtain ⟨⟨a1, a2⟩, a3, a4⟩ := ha
  obtain ⟨b1, b2⟩ := hw
  obtain ⟨p1, p2, p3, p4, p5, p6⟩ := hy.parts x.re x.im B a3 a4
  obtain ⟨r1, r1e, r1v⟩ := fmul_ex a1 b1 hu (by omega)
  obtain ⟨r2, r2e, r2v⟩ := fmul_ex a2 b2 hu (by omega)
  obtain ⟨r3, r3e, r3v⟩ := fsub_ex r1v r2v hu (by omega)
  obtain ⟨r4, r4e, r4v⟩ := fmul_ex a1 b2 hu (by omega)
  obtain ⟨r5, r5e, r5v⟩ := fmul_ex a2 b1 hu (by omega)
  obtain ⟨r6, r6e, r6v⟩ := fadd_ex r4v r5v hu (by omega)
  refine ⟨(r3, r6), ?_, ⟨r3v, r6v⟩, p5, p6⟩
  unfold cMul
  rw [r1e, r2e, Option.bind_some, Option.bind_some, r3e, r4e, r5e]
  simp only [Option.bind_some, r6e]

theorem EZ.mulL {u B : Nat} {a w : C} {x y : Cx} (ha : EZ u B a x) (hw : val w.1 = some (y.re * 2 ^ 1074) ∧ val w.2 = some (y.im * 2 ^ 1074)) (hy : U4 y) (hu : u ≤ 1100) (hB : B < 2 ^ 53) :
    ∃ r, cMul w a = some r ∧ EZ u B r (y * x) := by
  obtain ⟨⟨a1, a2⟩, a3, a4⟩ := ha
  obtain ⟨b1, b2⟩ := hw
  obtain ⟨p1, p2, p3, p4, p5, p6⟩ := hy.parts x.re x.im B a3 a4
  have e1 : x.re * y.re = y.re * x.re := Int.mul_comm _ _
  have e2 : x.im * y.im = y.im * x.im := Int.mul_comm _ _
  have e3 : x.re * y.im = y.im * x.re := Int.mul_comm _ _
  have e4 : x.im * y.re = y.re * x.im := Int.mul_comm _ _
  rw [e1, e2] at p5
  rw [e3, e4] at p6
  rw [e1] at p1; rw [e2] at p2; rw [e3] at p3; rw [e4] at p4
  obtain ⟨r1, r1e, r1v⟩ := fmul_ex' b1 a1 hu (by omega)
  obtain ⟨r2, r2e, r2v⟩ := fmul_ex' b2 a2 hu (by omega)
  obtain ⟨r3, r3e, r3v⟩ := fsub_ex r1v r2v hu (by omega)
  obtain ⟨r4, r4e, r4v⟩ := fmul_ex' b1 a2 hu (by omega)
  obtain ⟨r5, r5e, r5v⟩ := fmul_ex' b2 a1 hu (by omega)
  obtain ⟨r6, r6e, r6v⟩ := fadd_ex r4v r5v hu (by omega)
  refine ⟨(r3, r6), ?_, ⟨r3v, r6v⟩, p5, by show (y.re * x.im + y.im * x.re).natAbs ≤ B; omega⟩
  unfold cMul
  rw [r1e, r2e, Option.bind_some, Option.bind_some, r3e, r4e, r5e]
  simp only [Option.bind_some, r6e]

end Go.Proofs.Ytdeigbbilcjgjaa
