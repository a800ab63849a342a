/-
  What the operations on float64 words make of the real numbers that they stand for, but for a small part.
-/
import Derived.Test.YtdeigbbilcjgjaaIeeb
namespace Go.Proofs.Ytdeigbbilcjgjaa
set_option exponentiation.threshold 5000
set_option linter.unusedVariables false
set_option linter.unusedSimpArgs false

/-- A number within a bound. -/
def Bd (x m : Rat) : Prop := -m ≤ x ∧ x ≤ m
theorem Bd.nonneg {x m : Rat} (h : Bd x m) : 0 ≤ m := by unfold Bd at h; grind
theorem Bd.mono {x a b : Rat} (h : Bd x a) (k : a ≤ b) : Bd x b := by unfold Bd at *; grind
theorem Bd.add {x y a b : Rat} (h : Bd x a) (k : Bd y b) : Bd (x + y) (a + b) := by unfold Bd at *; grind
theorem Bd.sub {x y a b : Rat} (h : Bd x a) (k : Bd y b) : Bd (x - y) (a + b) := by unfold Bd at *; grind
theorem Bd.neg {x a : Rat} (h : Bd x a) : Bd (-x) a := by unfold Bd at *; grind
theorem Bd.mul {x y a b : Rat} (h : Bd x a) (k : Bd y b) : Bd (x * y) (a * b) := by
  have h1 : 0 ≤ (a - x) * (b + y) := Rat.mul_nonneg (by unfold Bd at *; grind) (by unfold Bd at *; grind)
  have h2 : 0 ≤ (a + x) * (b - y) := Rat.mul_nonneg (by unfold Bd at *; grind) (by unfold Bd at *; grind)
  have h3 : 0 ≤ (a - x) * (b - y) := Rat.mul_nonneg (by unfold Bd at *; grind) (by unfold Bd at *; grind)
  have h4 : 0 ≤ (a + x) * (b + y) := Rat.mul_nonneg (by unfold Bd at *; grind) (by unfold Bd at *; grind)
  unfold Bd at *; grind
theorem Bd.zero {m : Rat} (h : 0 ≤ m) : Bd 0 m := by unfold Bd; grind
theorem mul_le_l {a b c : Rat} (h : a ≤ b) (hc : 0 ≤ c) : c * a ≤ c * b := by
  have : 0 ≤ c * (b - a) := Rat.mul_nonneg hc (by grind)
  grind

/-- Half of a unit of the last of 53 digits, and a little more. -/
def uu : Rat := 1 / 9007199254740000
/-- The least size that is spoken of. -/
def dl : Rat := 1 / 1606938044258990275541962092341162602522202993782792835301376
/-- The greatest. -/
def tp : Rat := 1267650600228229401496703205376
theorem dl_pos : 0 < dl := by unfold dl; grind
/-- 2^1074. -/
def PP : Rat := ((2 ^ 1074 : Nat) : Rat)

/-- The word stands for the number x. -/
def RV (b : Nat) (x : Rat) : Prop := ∃ z : Int, val b = some z ∧ (z : Rat) = x * PP

theorem PP_pos : 0 < PP := by
  unfold PP
  have : ((0 : Nat) : Rat) < ((2 ^ 1074 : Nat) : Rat) := Rat.natCast_lt_natCast.2 (Nat.two_pow_pos _)
  exact this
theorem int_nat_le {z : Int} {n : Nat} (h : z ≤ n) : (z : Rat) ≤ (n : Rat) := by
  have := Rat.intCast_le_intCast.2 h
  rwa [Rat.intCast_natCast] at this
theorem RV.unique {b : Nat} {x y : Rat} (h : RV b x) (k : RV b y) : x = y := by
  obtain ⟨z, h1, h2⟩ := h
  obtain ⟨z', k1, k2⟩ := k
  rw [h1] at k1; cases k1
  have hp := PP_pos
  rw [h2] at k2
  have g1 : x ≤ y := Rat.le_of_mul_le_mul_right (c := PP) (by grind) hp
  have g2 : y ≤ x := Rat.le_of_mul_le_mul_right (c := PP) (by grind) hp
  grind

/-- The rounding's word on whole numbers, said of rationals. 'w' is how many units 1 is, 'e' what is lost at the bottom. -/
theorem round_rat {Z S : Int} {e : Nat} {z s m w : Rat} (hw : 0 < w) (h : 2 ^ 53 * (Z - S).natAbs ≤ S.natAbs + e) (hZ : (Z : Rat) = z * w) (hS : (S : Rat) = s * w) (hm : Bd s m) (he : (e : Rat) ≤ dl / 1000000000000000000000000000000000 * w) (hd : dl ≤ m) :
    Bd (z - s) (uu * m) := by
  have h1 : (9007199254740992 * (Z - S) : Int) ≤ ((S.natAbs + e : Nat) : Int) := by omega
  have h2 : (-(9007199254740992 * (Z - S)) : Int) ≤ ((S.natAbs + e : Nat) : Int) := by omega
  have g1 := Rat.intCast_le_intCast.2 h1
  have g2 := Rat.intCast_le_intCast.2 h2
  have ha : ((S.natAbs : Nat) : Rat) ≤ m * w := by
    have q1 : s * w ≤ m * w := by have := mul_le_l (c := w) hm.2 (by grind); grind
    have q2 : -(m * w) ≤ s * w := by have := mul_le_l (c := w) hm.1 (by grind); grind
    rcases Int.natAbs_eq S with hs | hs
    · have : ((S.natAbs : Nat) : Rat) = (S : Rat) := by
        conv => rhs; rw [hs]
        rw [Rat.intCast_natCast]
      rw [this, hS]; exact q1
    · have : ((S.natAbs : Nat) : Rat) = -(S : Rat) := by
        conv => rhs; rw [hs]
        rw [Rat.intCast_neg, Rat.intCast_natCast]; grind
      rw [this, hS]; grind
  rw [Rat.intCast_natCast, Rat.natCast_add] at g1 g2
  simp only [Rat.intCast_mul, Rat.intCast_neg, Rat.intCast_sub] at g1 g2
  rw [hZ, hS] at g1 g2
  have c : ((9007199254740992 : Int) : Rat) = 9007199254740992 := rfl
  rw [c] at g1 g2
  have k1 : (9007199254740992 * (z - s)) * w ≤ (m + dl / 1000000000000000000000000000000000) * w := by grind
  have k2 : (-(9007199254740992 * (z - s))) * w ≤ (m + dl / 1000000000000000000000000000000000) * w := by grind
  have k3 := Rat.le_of_mul_le_mul_right k1 hw
  have k4 := Rat.le_of_mul_le_mul_right k2 hw
  unfold Bd uu
  grind

theorem PP_big : (2 : Rat) ^ 400 ≤ PP := by
  unfold PP
  have h : ((2 ^ 400 : Nat) : Rat) ≤ ((2 ^ 1074 : Nat) : Rat) := Rat.natCast_le_natCast.2 (Nat.pow_le_pow_right (by omega) (by omega))
  have e : ((2 ^ 400 : Nat) : Rat) = (2 : Rat) ^ 400 := by rw [Rat.natCast_pow]; rfl
  rw [← e]; exact h
theorem eps_1 : ((2 ^ 52 : Nat) : Rat) ≤ dl / 1000000000000000000000000000000000 * PP := by
  have h := PP_big
  have e : ((2 ^ 52 : Nat) : Rat) = 4503599627370496 := rfl
  rw [e]; unfold dl; grind
theorem eps_2 : ((2 ^ 1126 : Nat) : Rat) ≤ dl / 1000000000000000000000000000000000 * (PP * PP) := by
  have e : ((2 ^ 1126 : Nat) : Rat) = ((2 ^ 52 : Nat) : Rat) * PP := by
    unfold PP
    rw [← Rat.natCast_mul, ← Nat.pow_add]
  rw [e]
  have := mul_le_l (c := PP) eps_1 (by have := PP_pos; grind)
  grind

theorem natAbs_lt {S : Int} {s m : Rat} {w : Rat} {N : Nat} (hw : 0 < w) (hS : (S : Rat) = s * w) (hm : Bd s m) (hN : m * w < (N : Rat)) : S.natAbs < N := by
  have q1 : s * w ≤ m * w := by have := mul_le_l (c := w) hm.2 (by grind); grind
  have q2 : -(m * w) ≤ s * w := by have := mul_le_l (c := w) hm.1 (by grind); grind
  have h1 : (S : Rat) < ((N : Int) : Rat) := by rw [Rat.intCast_natCast, hS]; grind
  have h2 : ((-S : Int) : Rat) < ((N : Int) : Rat) := by rw [Rat.intCast_natCast, Rat.intCast_neg, hS]; grind
  have := Rat.intCast_lt_intCast.1 h1
  have := Rat.intCast_lt_intCast.1 h2
  omega

theorem tp_PP {m : Rat} (h : m ≤ tp) : m * PP < ((2 ^ 2074 : Nat) : Rat) := by
  have e : ((2 ^ 2074 : Nat) : Rat) = ((2 ^ 1000 : Nat) : Rat) * PP := by
    unfold PP
    rw [← Rat.natCast_mul, ← Nat.pow_add]
  have e2 : ((2 ^ 101 : Nat) : Rat) ≤ ((2 ^ 1000 : Nat) : Rat) := Rat.natCast_le_natCast.2 (Nat.pow_le_pow_right (by omega) (by omega))
  have e3 : ((2 ^ 101 : Nat) : Rat) = 2535301200456458802993406410752 := rfl
  have hp := PP_pos
  rw [e]
  have k1 : m * PP ≤ tp * PP := by have := mul_le_l (c := PP) h (by grind); grind
  have k2 : ((2 ^ 101 : Nat) : Rat) * PP ≤ ((2 ^ 1000 : Nat) : Rat) * PP := by have := mul_le_l (c := PP) e2 (by grind); grind
  rw [e3] at k2
  unfold tp at k1
  grind

/-- ADDITION. -/
theorem RV.add {a b : Nat} {x y m : Rat} (ha : RV a x) (hb : RV b y) (hm : Bd (x + y) m) (hd : dl ≤ m) (ht : m ≤ tp) : ∃ r z, fAdd a b = some r ∧ RV r z ∧ Bd (z - (x + y)) (uu * m) := by
  obtain ⟨X, a1, a2⟩ := ha
  obtain ⟨Y, b1, b2⟩ := hb
  have hS : ((X + Y : Int) : Rat) = (x + y) * PP := by rw [Rat.intCast_add, a2, b2]; grind
  obtain ⟨r, Z, r1, r2, r3, _⟩ := add_val a1 b1 (natAbs_lt PP_pos hS hm (tp_PP ht))
  have hZ : (Z : Rat) = (Z : Rat) / PP * PP := (Rat.div_mul_cancel (by have := PP_pos; grind)).symm
  exact ⟨r, (Z : Rat) / PP, r1, ⟨Z, r2, hZ⟩, round_rat PP_pos r3 hZ hS hm eps_1 hd⟩
theorem RV.sub {a b : Nat} {x y m : Rat} (ha : RV a x) (hb : RV b y) (hm : Bd (x - y) m) (hd : dl ≤ m) (ht : m ≤ tp) : ∃ r z, fSub a b = some r ∧ RV r z ∧ Bd (z - (x - y)) (uu * m) := by
  obtain ⟨X, a1, a2⟩ := ha
  obtain ⟨Y, b1, b2⟩ := hb
  have hS : ((X - Y : Int) : Rat) = (x - y) * PP := by rw [Rat.intCast_sub, a2, b2]; grind
  obtain ⟨r, Z, r1, r2, r3, _⟩ := sub_val a1 b1 (natAbs_lt PP_pos hS hm (tp_PP ht))
  have hZ : (Z : Rat) = (Z : Rat) / PP * PP := (Rat.div_mul_cancel (by have := PP_pos; grind)).symm
  exact ⟨r, (Z : Rat) / PP, r1, ⟨Z, r2, hZ⟩, round_rat PP_pos r3 hZ hS hm eps_1 hd⟩
/-- MULTIPLICATION. -/
theorem RV.mul {a b : Nat} {x y m : Rat} (ha : RV a x) (hb : RV b y) (hm : Bd (x * y) m) (hd : dl ≤ m) (ht : m ≤ tp) : ∃ r z, fMul a b = some r ∧ RV r z ∧ Bd (z - x * y) (uu * m) := by
  obtain ⟨X, a1, a2⟩ := ha
  obtain ⟨Y, b1, b2⟩ := hb
  have hp := PP_pos
  have hpp : 0 < PP * PP := Rat.mul_pos hp hp
  have hS : ((X * Y : Int) : Rat) = (x * y) * (PP * PP) := by rw [Rat.intCast_mul, a2, b2]; grind
  have hN : m * (PP * PP) < ((2 ^ 3148 : Nat) : Rat) := by
    have e : ((2 ^ 3148 : Nat) : Rat) = ((2 ^ 2074 : Nat) : Rat) * PP := by
      unfold PP
      rw [← Rat.natCast_mul, ← Nat.pow_add]
    rw [e, ← Rat.mul_assoc]
    exact Rat.mul_lt_mul_of_pos_right (tp_PP ht) hp
  obtain ⟨r, Z, r1, r2, r3, _⟩ := mul_val a1 b1 (natAbs_lt hpp hS hm hN)
  have hZ : (Z : Rat) = (Z : Rat) / PP * PP := (Rat.div_mul_cancel (by grind)).symm
  have hZ2 : ((Z * 2 ^ 1074 : Int) : Rat) = (Z : Rat) / PP * (PP * PP) := by
    rw [Rat.intCast_mul, ← Rat.mul_assoc, ← hZ]
    congr 1
  exact ⟨r, (Z : Rat) / PP, r1, ⟨Z, r2, hZ⟩, round_rat hpp r3 hZ2 hS hm eps_2 hd⟩
theorem RV.neg {a : Nat} {x : Rat} (ha : RV a x) : RV (fNeg a) (-x) := by
  obtain ⟨X, a1, a2⟩ := ha
  exact ⟨-X, neg_val a1, by rw [Rat.intCast_neg, a2]; grind⟩
theorem RV.ofInt {n : Int} (h : n.natAbs < 2 ^ 53) : RV (floatOfInt .f64 n) (n : Rat) := by
  refine ⟨_, ofInt_val n h, ?_⟩
  rw [Rat.intCast_mul]
  congr 1

end Go.Proofs.Ytdeigbbilcjgjaa
