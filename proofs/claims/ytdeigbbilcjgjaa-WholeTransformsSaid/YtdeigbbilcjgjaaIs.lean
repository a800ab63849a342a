/-
  The program's turns as complex rationals; what its complex operations make of complex rationals, but for a small part.
-/
import Derived.Test.YtdeigbbilcjgjaaCq
import Derived.Test.YtdeigbbilcjgjaaFft
import Derived.Test.YtdeigbbilcjgjaaIr
namespace Go.Proofs.Ytdeigbbilcjgjaa
set_option exponentiation.threshold 5000
set_option linter.unusedVariables false
set_option linter.unusedSimpArgs false

/-- The cosines of the 24th parts of a turn, in units of 2^-54. -/
def ctL : List Int := [18014398509481984, 17400572765371946, 15600926743107924, 12738103345051546, 9007199254740992, 4662469420320400, 0, -4662469420320400, -9007199254740992, -12738103345051546, -15600926743107924, -17400572765371946,
  -18014398509481984, -17400572765371946, -15600926743107924, -12738103345051546, -9007199254740992, -4662469420320400, 0, 4662469420320400, 9007199254740992, 12738103345051546, 15600926743107924, 17400572765371946]
def ct (j : Nat) : Int := ctL.getD (j % 24) 0
theorem ct_add (j k : Nat) : ct (j + 24 * k) = ct j := by unfold ct; rw [Nat.add_mul_mod_self_left]
theorem ct_mod (j : Nat) : ct (j % 24) = ct j := by unfold ct; rw [Nat.mod_mod]
theorem cos_val : ∀ j : Fin 24, val (cosB (8 * j.val)) = some (ct j.val * 2 ^ 1020) := by decide +kernel

def q54 : Rat := 18014398509481984
/-- The turn of m 24th parts, there or back. -/
def th (back : Bool) (m : Nat) : Cq := ⟨(ct m : Rat) / q54, if back then -((ct (m + 18) : Rat) / q54) else (ct (m + 18) : Rat) / q54⟩
theorem th_mod (back : Bool) (m : Nat) : th back (m % 24) = th back m := by
  unfold th
  rw [ct_mod]
  have : ct (m % 24 + 18) = ct (m + 18) := by unfold ct; rw [Nat.mod_add_mod]
  rw [this]
theorem th_add (back : Bool) (m k : Nat) : th back (m + 24 * k) = th back m := by rw [← th_mod, Nat.add_mul_mod_self_left, th_mod]

/-- The parts of a pair of words. -/
def RC (c : C) (z : Cq) : Prop := RV c.1 z.re ∧ RV c.2 z.im

theorem cos_rv (j : Nat) (hj : j < 24) : RV (cosB (8 * j)) ((ct j : Rat) / q54) := by
  refine ⟨_, cos_val ⟨j, hj⟩, ?_⟩
  have e : PP = q54 * ((2 ^ 1020 : Nat) : Rat) := by
    have : q54 = ((2 ^ 54 : Nat) : Rat) := rfl
    rw [this]; unfold PP
    rw [← Rat.natCast_mul, ← Nat.pow_add]
  have e2 : (((ct j * 2 ^ 1020 : Int)) : Rat) = (ct j : Rat) * ((2 ^ 1020 : Nat) : Rat) := by
    rw [Rat.intCast_mul]
    congr 1
  rw [e, e2]
  have : q54 ≠ 0 := by unfold q54; grind
  have h : (ct j : Rat) / q54 * q54 = (ct j : Rat) := Rat.div_mul_cancel this
  show (ct j : Rat) * ((2 ^ 1020 : Nat) : Rat) = (ct j : Rat) / q54 * (q54 * ((2 ^ 1020 : Nat) : Rat))
  rw [← Rat.mul_assoc, h]

theorem tw_rc (m : Nat) : RC (tw (8 * m)) (th false m) := by
  have h1 : 8 * m % 192 = 8 * (m % 24) := by omega
  have h2 : (8 * m + 144) % 192 = 8 * ((m + 18) % 24) := by omega
  have hlt : m % 24 < 24 := Nat.mod_lt _ (by omega)
  have hlt2 : (m + 18) % 24 < 24 := Nat.mod_lt _ (by omega)
  refine ⟨?_, ?_⟩
  · show RV (cosB (8 * m % 192)) ((ct m : Rat) / q54)
    rw [h1, ← ct_mod m]; exact cos_rv _ hlt
  · show RV (cosB ((8 * m + 144) % 192)) ((ct (m + 18) : Rat) / q54)
    rw [h2, ← ct_mod (m + 18)]; exact cos_rv _ hlt2

/-- The sides that are spoken of. -/
def N7 (n : Nat) : Prop := n = 1 ∨ n = 2 ∨ n = 3 ∨ n = 4 ∨ n = 6 ∨ n = 8 ∨ n = 12
theorem N7.pos {n : Nat} (h : N7 n) : 0 < n := by rcases h with rfl | rfl | rfl | rfl | rfl | rfl | rfl <;> decide
theorem N7.le {n : Nat} (h : N7 n) : n ≤ 12 := by rcases h with rfl | rfl | rfl | rfl | rfl | rfl | rfl <;> decide
theorem N7.div {n : Nat} (h : N7 n) : n * (24 / n) = 24 ∧ 192 / n = 8 * (24 / n) := by rcases h with rfl | rfl | rfl | rfl | rfl | rfl | rfl <;> decide

/-- The matrix of a transform. -/
def wt (back : Bool) (n j k : Nat) : Cq := th back (j * k * (24 / n))

theorem wy_rc (back : Bool) (n : Nat) (hn : N7 n) (j : Nat) : RC (wy back (j : Nat) n) (th back (j * (24 / n))) := by
  obtain ⟨h1, h2⟩ := hn.div
  have e : ((((j : Nat) : Int) % (n : Nat)).toNat * (192 / n)) = 8 * (j % n * (24 / n)) := by
    rw [h2]
    have : (((j : Nat) : Int) % ((n : Nat) : Int)).toNat = j % n := by omega
    rw [this]
    simp only [Nat.mul_left_comm]
  have e3 : th false (j % n * (24 / n)) = th false (j * (24 / n)) := by
    have : j * (24 / n) = j % n * (24 / n) + 24 * (j / n) := by
      have hd := Nat.div_add_mod j n
      have : j * (24 / n) = (n * (j / n) + j % n) * (24 / n) := by rw [hd]
      rw [this, Nat.add_mul, Nat.mul_right_comm, h1]; omega
    rw [this, th_add]
  have t := tw_rc (j % n * (24 / n))
  rw [e3] at t
  unfold wy
  simp only [e]
  cases back with
  | false => exact t
  | true => exact ⟨t.1, t.2.neg⟩

theorem ct_norm : ∀ j : Fin 24, 50 * ((ct j.val).natAbs + (ct (j.val + 18)).natAbs) ≤ 71 * 18014398509481984 := by decide +kernel
theorem bd_abs (z : Int) : Bd ((z : Rat) / q54) (((z.natAbs : Nat) : Rat) / q54) := by
  have h1 : (z : Rat) ≤ ((z.natAbs : Nat) : Rat) := int_nat_le (by omega)
  have h2 : ((-z : Int) : Rat) ≤ ((z.natAbs : Nat) : Rat) := int_nat_le (by omega)
  rw [Rat.intCast_neg] at h2
  unfold Bd q54
  grind
theorem th_wb (back : Bool) (m : Nat) : WB (th back m) (71 / 50) := by
  rw [← th_mod]
  have hlt : m % 24 < 24 := Nat.mod_lt _ (by omega)
  generalize m % 24 = j at hlt
  have h := ct_norm ⟨j, hlt⟩
  simp only at h
  refine ⟨(((ct j).natAbs : Nat) : Rat) / q54, (((ct (j + 18)).natAbs : Nat) : Rat) / q54, bd_abs _, ?_, ?_⟩
  · have := bd_abs (ct (j + 18))
    unfold th
    cases back with
    | false => exact this
    | true => exact this.neg
  · have := Rat.natCast_le_natCast.2 h
    rw [Rat.natCast_mul, Rat.natCast_mul, Rat.natCast_add] at this
    have c1 : ((50 : Nat) : Rat) = 50 := rfl
    have c2 : ((71 : Nat) : Rat) = 71 := rfl
    have c3 : ((18014398509481984 : Nat) : Rat) = 18014398509481984 := rfl
    rw [c1, c2, c3] at this
    unfold q54
    grind

/-- Turns multiply, nearly. -/
theorem ct_mul : ∀ a b : Fin 24, (ct a.val * ct b.val - ct (a.val + 18) * ct (b.val + 18) - ct (a.val + b.val) * 18014398509481984).natAbs ≤ 72057594037927936 ∧
    (ct a.val * ct (b.val + 18) + ct (a.val + 18) * ct b.val - ct (a.val + b.val + 18) * 18014398509481984).natAbs ≤ 72057594037927936 := by decide +kernel
theorem bd_54 {z : Int} {x : Rat} (h : z.natAbs ≤ 72057594037927936) (hz : (z : Rat) = x * (q54 * q54)) : Bd x (2 * uu) := by
  have h1 : (z : Rat) ≤ ((72057594037927936 : Int) : Rat) := Rat.intCast_le_intCast.2 (by omega)
  have h2 : ((-z : Int) : Rat) ≤ ((72057594037927936 : Int) : Rat) := Rat.intCast_le_intCast.2 (by omega)
  rw [Rat.intCast_neg] at h2
  have c : ((72057594037927936 : Int) : Rat) = 72057594037927936 := rfl
  rw [c, hz] at h1 h2
  unfold q54 at h1 h2
  unfold Bd uu
  grind
theorem th_mul (back : Bool) (a b : Nat) : BC (th back a * th back b - th back (a + b)) (2 * uu) := by
  rw [← th_mod back a, ← th_mod back b, ← th_mod back (a + b), Nat.add_mod, th_mod back (a % 24 + b % 24)]
  have ha : a % 24 < 24 := Nat.mod_lt _ (by omega)
  have hb : b % 24 < 24 := Nat.mod_lt _ (by omega)
  generalize a % 24 = a at ha
  generalize b % 24 = b at hb
  obtain ⟨h1, h2⟩ := ct_mul ⟨a, ha⟩ ⟨b, hb⟩
  simp only at h1 h2
  have hq : q54 ≠ 0 := by unfold q54; grind
  have c : ((18014398509481984 : Int) : Rat) = q54 := rfl
  have f : ∀ z : Int, (z : Rat) = (z : Rat) / q54 * q54 := fun z => (Rat.div_mul_cancel hq).symm
  have f1 := f (ct a)
  have f2 := f (ct b)
  have f3 := f (ct (a + 18))
  have f4 := f (ct (b + 18))
  have f5 := f (ct (a + b))
  have f6 := f (ct (a + b + 18))
  have g1 : Bd ((ct a : Rat) / q54 * ((ct b : Rat) / q54) - (ct (a + 18) : Rat) / q54 * ((ct (b + 18) : Rat) / q54) - (ct (a + b) : Rat) / q54) (2 * uu) := by
    refine bd_54 h1 ?_
    rw [Rat.intCast_sub, Rat.intCast_sub, Rat.intCast_mul, Rat.intCast_mul, Rat.intCast_mul, c]
    generalize (ct a : Rat) / q54 = x at *
    generalize (ct b : Rat) / q54 = y at *
    generalize (ct (a + 18) : Rat) / q54 = z at *
    generalize (ct (b + 18) : Rat) / q54 = w at *
    generalize (ct (a + b) : Rat) / q54 = v at *
    rw [f1, f2, f3, f4, f5]; grind
  have g2 : Bd ((ct a : Rat) / q54 * ((ct (b + 18) : Rat) / q54) + (ct (a + 18) : Rat) / q54 * ((ct b : Rat) / q54) - (ct (a + b + 18) : Rat) / q54) (2 * uu) := by
    refine bd_54 h2 ?_
    rw [Rat.intCast_sub, Rat.intCast_add, Rat.intCast_mul, Rat.intCast_mul, Rat.intCast_mul, c]
    generalize (ct a : Rat) / q54 = x at *
    generalize (ct b : Rat) / q54 = y at *
    generalize (ct (a + 18) : Rat) / q54 = z at *
    generalize (ct (b + 18) : Rat) / q54 = w at *
    generalize (ct (a + b + 18) : Rat) / q54 = v at *
    rw [f1, f2, f3, f4, f6]; grind
  cases back with
  | false => exact ⟨g1, g2⟩
  | true =>
    refine ⟨?_, ?_⟩
    · have e : (th true a * th true b - th true (a + b)).re = (ct a : Rat) / q54 * ((ct b : Rat) / q54) - (ct (a + 18) : Rat) / q54 * ((ct (b + 18) : Rat) / q54) - (ct (a + b) : Rat) / q54 := by
        show (ct a : Rat) / q54 * ((ct b : Rat) / q54) - -((ct (a + 18) : Rat) / q54) * -((ct (b + 18) : Rat) / q54) - (ct (a + b) : Rat) / q54 = _
        grind
      rw [e]; exact g1
    · have e : (th true a * th true b - th true (a + b)).im = -((ct a : Rat) / q54 * ((ct (b + 18) : Rat) / q54) + (ct (a + 18) : Rat) / q54 * ((ct b : Rat) / q54) - (ct (a + b + 18) : Rat) / q54) := by
        show (ct a : Rat) / q54 * -((ct (b + 18) : Rat) / q54) + -((ct (a + 18) : Rat) / q54) * ((ct b : Rat) / q54) - -((ct (a + b + 18) : Rat) / q54) = _
        grind
      rw [e]; exact g2.neg
/-- Half a turn. -/
theorem ct_half : ∀ j : Fin 24, ct (j.val + 12) = -ct j.val := by decide +kernel
theorem th_half (back : Bool) (m : Nat) : th back (m + 12) = -(th back m) := by
  have h : ∀ j, ct (j + 12) = -ct j := by
    intro j
    have h1 : ct (j + 12) = ct (j % 24 + 12) := by unfold ct; rw [Nat.mod_add_mod]
    rw [h1, ct_half ⟨j % 24, Nat.mod_lt _ (by omega)⟩, ct_mod]
  have h2 : ct (m + 12 + 18) = -ct (m + 18) := by rw [show m + 12 + 18 = m + 18 + 12 by omega, h]
  refine Cq.ext' ?_ ?_
  · show (ct (m + 12) : Rat) / q54 = -((ct m : Rat) / q54)
    rw [h, Rat.intCast_neg]; unfold q54; grind
  · cases back with
    | false =>
      show (ct (m + 12 + 18) : Rat) / q54 = -((ct (m + 18) : Rat) / q54)
      rw [h2, Rat.intCast_neg]; unfold q54; grind
    | true =>
      show -((ct (m + 12 + 18) : Rat) / q54) = -(-((ct (m + 18) : Rat) / q54))
      rw [h2, Rat.intCast_neg]; unfold q54; grind

/-! The operations. -/
theorem RC.add {a b : C} {x y : Cq} {m : Rat} (ha : RC a x) (hb : RC b y) (hm : BC (x + y) m) (hd : dl ≤ m) (ht : m ≤ tp) : ∃ r z, cAdd a b = some r ∧ RC r z ∧ BC (z - (x + y)) (uu * m) := by
  obtain ⟨r, z, r1, r2, r3⟩ := ha.1.add hb.1 hm.1 hd ht
  obtain ⟨s, t, s1, s2, s3⟩ := ha.2.add hb.2 hm.2 hd ht
  exact ⟨(r, s), ⟨z, t⟩, by unfold fAdd at r1 s1; unfold cAdd cSumBits; rw [r1, s1]; rfl, ⟨r2, s2⟩, r3, s3⟩
theorem RC.sub {a b : C} {x y : Cq} {m : Rat} (ha : RC a x) (hb : RC b y) (hm : BC (x - y) m) (hd : dl ≤ m) (ht : m ≤ tp) : ∃ r z, cSub a b = some r ∧ RC r z ∧ BC (z - (x - y)) (uu * m) := by
  obtain ⟨r, z, r1, r2, r3⟩ := ha.1.sub hb.1 hm.1 hd ht
  obtain ⟨s, t, s1, s2, s3⟩ := ha.2.sub hb.2 hm.2 hd ht
  exact ⟨(r, s), ⟨z, t⟩, by unfold fSub at r1 s1; unfold cSub cSumBits; rw [r1, s1]; rfl, ⟨r2, s2⟩, r3, s3⟩
theorem tp_dl : dl ≤ 1 ∧ (1 : Rat) ≤ tp := by unfold dl tp; constructor <;> grind
/-- The product, from the parts' bounds. -/
theorem RC.mul {a b : C} {x y : Cq} {m : Rat} (ha : RC a x) (hb : RC b y) (hx : BC x m) (hy : WB y (71 / 50)) (hd : dl ≤ m) (ht : m ≤ tp / 100) : ∃ r z, cMul a b = some r ∧ RC r z ∧ BC (z - x * y) (5 * uu * m) := by
  obtain ⟨p, q, hp, hq, hpq⟩ := hy
  have p0 := hp.nonneg
  have q0 := hq.nonneg
  have m0 : 0 < m := by have := dl_pos; grind
  have hdl := dl_pos
  have htp := tp_dl
  have ep : m * p ≤ 71 / 50 * m := by have := mul_le_l (show p ≤ 71 / 50 by grind) (show 0 ≤ m by grind); grind
  have eq : m * q ≤ 71 / 50 * m := by have := mul_le_l (show q ≤ 71 / 50 by grind) (show 0 ≤ m by grind); grind
  have epq : m * p + m * q ≤ 71 / 50 * m := by have := mul_le_l hpq (show 0 ≤ m by grind); grind
  have b1 := hx.1.mul hp
  have b2 := hx.2.mul hq
  have b3 := hx.1.mul hq
  have b4 := hx.2.mul hp
  have hu : 0 < uu ∧ uu ≤ 1 / 1000000 := by unfold uu; constructor <;> grind
  have hum : uu * (71 / 50 * m) ≤ 1 / 1000000 * (71 / 50 * m) := by
    have := mul_le_l hu.2 (show 0 ≤ 71 / 50 * m by grind); grind
  obtain ⟨r1, z1, f1, g1, k1⟩ := ha.1.mul hb.1 (m := 71 / 50 * m) (b1.mono ep) (by grind) (by grind)
  obtain ⟨r2, z2, f2, g2, k2⟩ := ha.2.mul hb.2 (m := 71 / 50 * m) (b2.mono eq) (by grind) (by grind)
  obtain ⟨r4, z4, f4, g4, k4⟩ := ha.1.mul hb.2 (m := 71 / 50 * m) (b3.mono eq) (by grind) (by grind)
  obtain ⟨r5, z5, f5, g5, k5⟩ := ha.2.mul hb.1 (m := 71 / 50 * m) (b4.mono ep) (by grind) (by grind)
  have c1 : Bd (z1 - z2) (3 / 2 * m) := by
    have h1 := (b1.sub b2).mono epq
    have h2 := k1.sub k2
    unfold Bd at *; grind
  have c2 : Bd (z4 + z5) (3 / 2 * m) := by
    have h1 := (b3.add b4).mono (show m * q + m * p ≤ 71 / 50 * m by grind)
    have h2 := k4.add k5
    unfold Bd at *; grind
  obtain ⟨r3, z3, f3, g3, k3⟩ := g1.sub g2 c1 (by grind) (by grind)
  obtain ⟨r6, z6, f6, g6, k6⟩ := g4.add g5 c2 (by grind) (by grind)
  refine ⟨(r3, r6), ⟨z3, z6⟩, ?_, ⟨g3, g6⟩, ?_, ?_⟩
  · unfold cMul
    rw [f1, f2, Option.bind_some, Option.bind_some, f3, f4, f5]
    simp only [Option.bind_some, f6]
  · show Bd (z3 - (x.re * y.re - x.im * y.im)) (5 * uu * m)
    clear hum
    have e : uu * (71 / 50 * m) = 71 / 50 * (uu * m) := by grind
    have e2 : uu * (3 / 2 * m) = 3 / 2 * (uu * m) := by grind
    have e3 : 5 * uu * m = 5 * (uu * m) := by grind
    have um : 0 ≤ uu * m := Rat.mul_nonneg (by grind) (by grind)
    rw [e] at k1 k2
    rw [e2] at k3
    rw [e3]
    unfold Bd at *; grind
  · show Bd (z6 - (x.re * y.im + x.im * y.re)) (5 * uu * m)
    clear hum
    have e : uu * (71 / 50 * m) = 71 / 50 * (uu * m) := by grind
    have e2 : uu * (3 / 2 * m) = 3 / 2 * (uu * m) := by grind
    have e3 : 5 * uu * m = 5 * (uu * m) := by grind
    have um : 0 ≤ uu * m := Rat.mul_nonneg (by grind) (by grind)
    rw [e] at k4 k5
    rw [e2] at k6
    rw [e3]
    unfold Bd at *; grind

/-- .. the turn first. -/
theorem RC.mulw {a b : C} {x y : Cq} {m : Rat} (hb : RC b y) (ha : RC a x) (hx : BC x m) (hy : WB y (71 / 50)) (hd : dl ≤ m) (ht : m ≤ tp / 100) : ∃ r z, cMul b a = some r ∧ RC r z ∧ BC (z - y * x) (5 * uu * m) := by
  obtain ⟨p, q, hp, hq, hpq⟩ := hy
  have p0 := hp.nonneg
  have q0 := hq.nonneg
  have m0 : 0 < m := by have := dl_pos; grind
  have hdl := dl_pos
  have htp := tp_dl
  have ep : m * p ≤ 71 / 50 * m := by have := mul_le_l (show p ≤ 71 / 50 by grind) (show 0 ≤ m by grind); grind
  have eq : m * q ≤ 71 / 50 * m := by have := mul_le_l (show q ≤ 71 / 50 by grind) (show 0 ≤ m by grind); grind
  have epq : m * p + m * q ≤ 71 / 50 * m := by have := mul_le_l hpq (show 0 ≤ m by grind); grind
  have b1 := hp.mul hx.1
  have b2 := hq.mul hx.2
  have b3 := hp.mul hx.2
  have b4 := hq.mul hx.1
  have hu : 0 < uu ∧ uu ≤ 1 / 1000000 := by unfold uu; constructor <;> grind
  have hum : uu * (71 / 50 * m) ≤ 1 / 1000000 * (71 / 50 * m) := by
    have := mul_le_l hu.2 (show 0 ≤ 71 / 50 * m by grind); grind
  obtain ⟨r1, z1, f1, g1, k1⟩ := hb.1.mul ha.1 (m := 71 / 50 * m) (b1.mono (show p * m ≤ 71 / 50 * m by grind)) (by grind) (by grind)
  obtain ⟨r2, z2, f2, g2, k2⟩ := hb.2.mul ha.2 (m := 71 / 50 * m) (b2.mono (show q * m ≤ 71 / 50 * m by grind)) (by grind) (by grind)
  obtain ⟨r4, z4, f4, g4, k4⟩ := hb.1.mul ha.2 (m := 71 / 50 * m) (b3.mono (show p * m ≤ 71 / 50 * m by grind)) (by grind) (by grind)
  obtain ⟨r5, z5, f5, g5, k5⟩ := hb.2.mul ha.1 (m := 71 / 50 * m) (b4.mono (show q * m ≤ 71 / 50 * m by grind)) (by grind) (by grind)
  have c1 : Bd (z1 - z2) (3 / 2 * m) := by
    have h1 := (b1.sub b2).mono (show p * m + q * m ≤ 71 / 50 * m by grind)
    have h2 := k1.sub k2
    unfold Bd at *; grind
  have c2 : Bd (z4 + z5) (3 / 2 * m) := by
    have h1 := (b3.add b4).mono (show p * m + q * m ≤ 71 / 50 * m by grind)
    have h2 := k4.add k5
    unfold Bd at *; grind
  obtain ⟨r3, z3, f3, g3, k3⟩ := g1.sub g2 c1 (by grind) (by grind)
  obtain ⟨r6, z6, f6, g6, k6⟩ := g4.add g5 c2 (by grind) (by grind)
  refine ⟨(r3, r6), ⟨z3, z6⟩, ?_, ⟨g3, g6⟩, ?_, ?_⟩
  · unfold cMul
    rw [f1, f2, Option.bind_some, Option.bind_some, f3, f4, f5]
    simp only [Option.bind_some, f6]
  · show Bd (z3 - (y.re * x.re - y.im * x.im)) (5 * uu * m)
    clear hum
    have e : uu * (71 / 50 * m) = 71 / 50 * (uu * m) := by grind
    have e2 : uu * (3 / 2 * m) = 3 / 2 * (uu * m) := by grind
    have e3 : 5 * uu * m = 5 * (uu * m) := by grind
    have um : 0 ≤ uu * m := Rat.mul_nonneg (by grind) (by grind)
    rw [e] at k1 k2
    rw [e2] at k3
    rw [e3]
    unfold Bd at *; grind
  · show Bd (z6 - (y.re * x.im + y.im * x.re)) (5 * uu * m)
    clear hum
    have e : uu * (71 / 50 * m) = 71 / 50 * (uu * m) := by grind
    have e2 : uu * (3 / 2 * m) = 3 / 2 * (uu * m) := by grind
    have e3 : 5 * uu * m = 5 * (uu * m) := by grind
    have um : 0 ≤ uu * m := Rat.mul_nonneg (by grind) (by grind)
    rw [e] at k4 k5
    rw [e2] at k6
    rw [e3]
    unfold Bd at *; grind

end Go.Proofs.Ytdeigbbilcjgjaa
