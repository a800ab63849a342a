/-
  Quotients and square roots of float64 words, as the real numbers that they stand for.
-/
import Derived.Test.YtdeigbbilcjgjaaIq
namespace Go.Proofs.Ytdeigbbilcjgjaa
set_option exponentiation.threshold 5000
set_option linter.unusedVariables false
set_option linter.unusedSimpArgs false

theorem sg_xor (s t : Bool) (a b : Nat) : sg (s ^^ t) a * sg t b = sg s (a * b) := by
  cases s <;> cases t <;> simp [sg, Int.neg_mul, Int.mul_neg]

/-- A quotient's digits, to the last but one. -/
theorem quo_digits (m n : Nat) (h0 : n ≠ 0) (hm : m < 2 ^ 53) (mag more : Nat) (hmore : more = 54 + n.log2 - m.log2) (hmag : mag = 2 * (m <<< more / n) + (m <<< more % n != 0).toNat) :
    2 ^ 54 * (mag * n) ≤ 2 ^ 54 * (2 * (m * 2 ^ more)) + 2 * (m * 2 ^ more) ∧ 2 ^ 54 * (2 * (m * 2 ^ more)) ≤ 2 ^ 54 * (mag * n) + 2 * (m * 2 ^ more) := by
  rw [Nat.shiftLeft_eq] at hmag
  by_cases hm0 : m = 0
  · subst hm0
    rw [Nat.zero_mul] at hmag ⊢
    rw [Nat.zero_div, Nat.zero_mod] at hmag
    simp at hmag
    subst hmag
    simp
  · have hlm : m.log2 ≤ 52 := by have : m.log2 < 53 := (Nat.log2_lt hm0).2 hm; omega
    have h1 : 2 ^ m.log2 ≤ m := Nat.log2_self_le hm0
    have h2 : n < 2 ^ (n.log2 + 1) := Nat.lt_log2_self
    have hD : 2 ^ 53 * n ≤ m * 2 ^ more := by
      have q1 : 2 ^ m.log2 * 2 ^ more ≤ m * 2 ^ more := Nat.mul_le_mul_right _ h1
      rw [← Nat.pow_add, show m.log2 + more = 53 + (n.log2 + 1) by omega, Nat.pow_add] at q1
      have q2 : 2 ^ 53 * n ≤ 2 ^ 53 * 2 ^ (n.log2 + 1) := Nat.mul_le_mul_left _ (Nat.le_of_lt h2)
      omega
    generalize m * 2 ^ more = D at *
    have h3 : D = n * (D / n) + D % n := (Nat.div_add_mod D n).symm
    have h4 : D % n < n := Nat.mod_lt _ (by omega)
    have e : mag * n = 2 * (n * (D / n)) + (D % n != 0).toNat * n := by
      rw [hmag, Nat.add_mul, Nat.mul_assoc, Nat.mul_comm (D / n)]
    rw [e]
    generalize n * (D / n) = Q at *
    generalize D % n = R at *
    by_cases hR : R = 0
    · subst hR; simp; omega
    · have : (R != 0) = true := by simp [hR]
      rw [this]; simp; omega

theorem pow_cast (k : Nat) : ((2 ^ k : Nat) : Int) = (2 : Int) ^ k := by simp

/-- DIVISION: 'q' is the quotient itself. -/
theorem RV.div {a b : Nat} {x y q m : Rat} (ha : RV a x) (hb : RV b y) (hy : y ≠ 0) (hyt : Bd y tp) (hq : q * y = x) (hm : Bd q m) (hd : dl ≤ m) (ht : m ≤ tp) : ∃ r z, fDiv a b = some r ∧ RV r z ∧ Bd (z - q) (2 * uu * m) := by
  obtain ⟨X, a1, a2⟩ := ha
  obtain ⟨Y, b1, b2⟩ := hb
  have hp := PP_pos
  have hYlt : Y.natAbs < 2 ^ 1175 := by
    refine natAbs_lt hp b2 hyt ?_
    have e : ((2 ^ 1175 : Nat) : Rat) = ((2 ^ 101 : Nat) : Rat) * PP := by
      unfold PP
      rw [← Rat.natCast_mul, ← Nat.pow_add]
    rw [e, show ((2 ^ 101 : Nat) : Rat) = 2535301200456458802993406410752 from rfl]
    exact Rat.mul_lt_mul_of_pos_right (by unfold tp; grind) hp
  obtain ⟨s, m1, i, r1, hi, hm1, hX⟩ := val_sg a1
  obtain ⟨t, n, j, r2, hj, hn, hY⟩ := val_sg b1
  have hn0 : n ≠ 0 := by
    intro h; subst h
    rw [Nat.zero_mul] at hY
    have : Y = 0 := by rw [hY]; unfold sg; split <;> rfl
    rw [this] at b2
    have : y * PP = 0 * PP := by rw [← b2]; grind
    exact hy (by
      have g1 : y ≤ 0 := Rat.le_of_mul_le_mul_right (c := PP) (by grind) hp
      have g2 : 0 ≤ y := Rat.le_of_mul_le_mul_right (c := PP) (by grind) hp
      grind)
  have hjle : j ≤ 101 := by
    rw [hY, sg_natAbs] at hYlt
    have h1 : 2 ^ (j + 1074).toNat ≤ n * 2 ^ (j + 1074).toNat := Nat.le_mul_of_pos_left _ (by omega)
    have h2 : (j + 1074).toNat < 1175 := (Nat.pow_lt_pow_iff_right (a := 2) (by omega)).1 (Nat.lt_of_le_of_lt h1 hYlt)
    omega
  obtain ⟨more, hmore⟩ : ∃ more, more = 54 + n.log2 - m1.log2 := ⟨_, rfl⟩
  obtain ⟨mag, hmag⟩ : ∃ mag, mag = 2 * (m1 <<< more / n) + (m1 <<< more % n != 0).toNat := ⟨_, rfl⟩
  obtain ⟨e, he⟩ : ∃ e : Int, e = i - j - more - 1 := ⟨_, rfl⟩
  have hln : n.log2 ≤ 52 := by have : n.log2 < 53 := (Nat.log2_lt hn0).2 hn; omega
  have hmore2 : more ≤ 106 := by omega
  have hquo : (D.read a).quotient 54 (D.read b) = some (.number (s ^^ t) mag e) := by
    rw [r1, r2]
    simp only [Ieee.Datum.quotient]
    rw [if_neg hn0, ← hmore, ← hmag, ← he]
  obtain ⟨d1, d2⟩ := quo_digits m1 n hn0 hm1 mag more hmore hmag
  obtain ⟨E, hE⟩ : ∃ E : Nat, E = (e + 2148).toNat + (j + 1074).toNat := ⟨_, rfl⟩
  obtain ⟨XW, hXW⟩ : ∃ XW : Int, XW = sg (s ^^ t) (mag * 2 ^ (e + 2148).toNat) := ⟨_, rfl⟩
  -- XW * Y against X * 2^2148
  have k1 : XW * Y = sg s (mag * n * 2 ^ E) := by
    rw [hXW, hY, sg_xor, hE, Nat.pow_add]
    congr 1
    simp only [Nat.mul_assoc, Nat.mul_left_comm]
  have k2 : X * 2 ^ 2148 = sg s (2 * (m1 * 2 ^ more) * 2 ^ E) := by
    rw [hX, ← pow_cast, ← sg_mul]
    congr 1
    have : (i + 1074).toNat + 2148 = 1 + more + E := by omega
    rw [Nat.mul_assoc, ← Nat.pow_add, this, Nat.pow_add, Nat.pow_add, Nat.pow_one]
    simp only [Nat.mul_assoc, Nat.mul_left_comm]
  have k3 : (2 ^ 54 * (XW * Y - X * 2 ^ 2148)).natAbs ≤ (X * 2 ^ 2148).natAbs := by
    rw [k1, k2]
    have f1 := Nat.mul_le_mul_right (2 ^ E) d1
    have f2 := Nat.mul_le_mul_right (2 ^ E) d2
    generalize mag * n = p0 at *
    generalize 2 * (m1 * 2 ^ more) = r0 at *
    generalize 2 ^ E = G at *
    rw [Nat.add_mul, Nat.mul_assoc (2 ^ 54) p0, Nat.mul_assoc (2 ^ 54) r0] at f1
    rw [Nat.add_mul, Nat.mul_assoc (2 ^ 54) p0, Nat.mul_assoc (2 ^ 54) r0] at f2
    generalize p0 * G = p at *
    generalize r0 * G = r at *
    clear hX hY hmag
    unfold sg
    split <;> omega
  -- in rationals
  have hpp : 0 < PP * PP := Rat.mul_pos hp hp
  have hP2 : (((2 : Int) ^ 2148 : Int) : Rat) = PP * PP := by
    have : ((2 : Int) ^ 2148) = ((2 ^ 2148 : Nat) : Int) := by simp
    rw [this, Rat.intCast_natCast]
    unfold PP
    rw [← Rat.natCast_mul, ← Nat.pow_add]
  obtain ⟨xw, hxw⟩ : ∃ xw : Rat, (XW : Rat) = xw * (PP * PP) := ⟨(XW : Rat) / (PP * PP), (Rat.div_mul_cancel (by grind)).symm⟩
  have hppp : 0 < PP * PP * PP := Rat.mul_pos hpp hp
  have g0 : Bd ((xw - q) * y) (1 / 18014398509481984 * (m * (if 0 ≤ y then y else -y))) := by
    have c1 : ((2 ^ 54 * (XW * Y - X * 2 ^ 2148) : Int) : Rat) = 18014398509481984 * ((xw - q) * y) * (PP * PP * PP) := by
      simp only [Rat.intCast_mul, Rat.intCast_sub]
      rw [hP2, hxw, a2, b2, ← hq]
      have : (((2 : Int) ^ 54 : Int) : Rat) = 18014398509481984 := rfl
      rw [this]; grind
    have c2 : ((X * 2 ^ 2148 : Int) : Rat) = (q * y) * (PP * PP * PP) := by
      rw [Rat.intCast_mul, hP2, a2, ← hq]; grind
    have hqy : Bd (q * y) (m * (if 0 ≤ y then y else -y)) := by
      refine Bd.mul hm ?_
      unfold Bd; split <;> grind
    generalize m * (if 0 ≤ y then y else -y) = M at *
    have a3 : (X * 2 ^ 2148).natAbs ≤ (X * 2 ^ 2148).natAbs := Nat.le_refl _
    have l1 : (2 ^ 54 * (XW * Y - X * 2 ^ 2148) : Int) ≤ (X * 2 ^ 2148) ∨ (2 ^ 54 * (XW * Y - X * 2 ^ 2148) : Int) ≤ -(X * 2 ^ 2148) := by omega
    have l2 : -(2 ^ 54 * (XW * Y - X * 2 ^ 2148) : Int) ≤ (X * 2 ^ 2148) ∨ -(2 ^ 54 * (XW * Y - X * 2 ^ 2148) : Int) ≤ -(X * 2 ^ 2148) := by omega
    have up : ∀ A : Int, A ≤ (X * 2 ^ 2148) ∨ A ≤ -(X * 2 ^ 2148) → (A : Rat) ≤ M * (PP * PP * PP) := by
      intro A hA
      have b1 : (q * y) * (PP * PP * PP) ≤ M * (PP * PP * PP) := by have := mul_le_l (c := PP * PP * PP) hqy.2 (by grind); grind
      have b2 : -((q * y) * (PP * PP * PP)) ≤ M * (PP * PP * PP) := by have := mul_le_l (c := PP * PP * PP) hqy.1 (by grind); grind
      rcases hA with h | h
      · have := Rat.intCast_le_intCast.2 h
        rw [c2] at this; grind
      · have := Rat.intCast_le_intCast.2 h
        rw [Rat.intCast_neg, c2] at this; grind
    have u1 := up _ l1
    have u2 := up _ l2
    rw [Rat.intCast_neg] at u2
    rw [c1] at u1 u2
    have v1 : 18014398509481984 * ((xw - q) * y) ≤ M := Rat.le_of_mul_le_mul_right u1 hppp
    have v2 : -(18014398509481984 * ((xw - q) * y)) ≤ M := Rat.le_of_mul_le_mul_right (c := PP * PP * PP) (by grind) hppp
    unfold Bd
    grind
  have g1 : Bd (xw - q) (1 / 18014398509481984 * m) := by
    by_cases hy0 : 0 ≤ y
    · rw [if_pos hy0] at g0
      have hyp : 0 < y := by grind
      refine ⟨Rat.le_of_mul_le_mul_right (c := y) ?_ hyp, Rat.le_of_mul_le_mul_right (c := y) ?_ hyp⟩
      · have := g0.1; grind
      · have := g0.2; grind
    · rw [if_neg hy0] at g0
      have hyp : 0 < -y := by grind
      refine ⟨Rat.le_of_mul_le_mul_right (c := -y) ?_ hyp, Rat.le_of_mul_le_mul_right (c := -y) ?_ hyp⟩
      · have := g0.2; grind
      · have := g0.1; grind
  have hbx : Bd xw (m * (18014398509481985 / 18014398509481984)) := by
    have h1 := g1.add hm
    have e : xw - q + q = xw := by grind
    rw [e] at h1
    exact h1.mono (by grind)
  have hm0 : 0 ≤ m := hm.nonneg
  have hlt : XW.natAbs < 2 ^ 3148 := by
    refine natAbs_lt hpp hxw (hbx.mono (b := tp * 2) (by grind)) ?_
    have e : ((2 ^ 3148 : Nat) : Rat) = ((2 ^ 1000 : Nat) : Rat) * (PP * PP) := by
      unfold PP
      rw [← Rat.natCast_mul, ← Nat.pow_add, ← Rat.natCast_mul, ← Nat.pow_add]
    rw [e]
    refine Rat.mul_lt_mul_of_pos_right ?_ hpp
    have e2 : ((2 ^ 102 : Nat) : Rat) ≤ ((2 ^ 1000 : Nat) : Rat) := Rat.natCast_le_natCast.2 (Nat.pow_le_pow_right (by omega) (by omega))
    have e3 : ((2 ^ 102 : Nat) : Rat) = 5070602400912917605986812821504 := rfl
    unfold tp; grind
  obtain ⟨Z, hZ, w1, _⟩ := write_val (s ^^ t) mag e (by omega) XW (by rw [hXW]; rfl) hlt
  have hZr : (Z : Rat) = (Z : Rat) / PP * PP := (Rat.div_mul_cancel (by grind)).symm
  have hZ2 : ((Z * 2 ^ 1074 : Int) : Rat) = (Z : Rat) / PP * (PP * PP) := by
    rw [Rat.intCast_mul, ← Rat.mul_assoc, ← hZr]
    congr 1
  have hr := round_rat hpp w1 hZ2 hxw hbx eps_2 (by grind)
  refine ⟨D.write (.number (s ^^ t) mag e), (Z : Rat) / PP, ?_, ⟨Z, hZ, hZr⟩, ?_⟩
  · show ((D.read a).quotient 54 (D.read b)).map D.write = _
    rw [hquo]; rfl
  · have h1 := hr.add g1
    have e1 : (Z : Rat) / PP - xw + (xw - q) = (Z : Rat) / PP - q := by grind
    rw [e1] at h1
    refine h1.mono ?_
    unfold uu
    grind

theorem rootFrom_spec (n : Nat) : ∀ todo root, root * root ≤ n → n < (root + 2 ^ todo) * (root + 2 ^ todo) →
    Ieee.Datum.rootFrom n todo root * Ieee.Datum.rootFrom n todo root ≤ n ∧ n < (Ieee.Datum.rootFrom n todo root + 1) * (Ieee.Datum.rootFrom n todo root + 1) := by
  intro todo
  induction todo with
  | zero => intro root h1 h2; exact ⟨h1, by simpa [Ieee.Datum.rootFrom] using h2⟩
  | succ todo ih =>
    intro root h1 h2
    have e : root + 1 <<< todo = root + 2 ^ todo := by rw [Nat.shiftLeft_eq, Nat.one_mul]
    have e0 : Ieee.Datum.rootFrom n (todo + 1) root = Ieee.Datum.rootFrom n todo (if (root + 1 <<< todo) * (root + 1 <<< todo) ≤ n then root + 1 <<< todo else root) := rfl
    rw [e0, e]
    by_cases h : (root + 2 ^ todo) * (root + 2 ^ todo) ≤ n
    · rw [if_pos h]
      refine ih _ h ?_
      rw [Nat.add_assoc, ← Nat.two_mul, Nat.mul_comm 2, ← Nat.pow_succ]; exact h2
    · rw [if_neg h]
      exact ih _ h1 (by omega)

/-- What a normal word reads as. -/
theorem read_normal {b : Nat} {s : Bool} {m : Nat} {e : Int} (h : D.read b = .number s m e) : 2 ^ 52 ≤ m ∨ e = -1074 := by
  rw [read_eq] at h
  by_cases c1 : b % 2 ^ 63 < 2 ^ 52
  · rw [if_pos c1] at h
    simp only [Ieee.Datum.number.injEq] at h
    omega
  · rw [if_neg c1] at h
    by_cases c2 : b % 2 ^ 63 < 2047 * 2 ^ 52
    · rw [if_pos c2] at h
      simp only [Ieee.Datum.number.injEq] at h
      omega
    · rw [if_neg c2] at h
      by_cases c3 : b % 2 ^ 63 = 2047 * 2 ^ 52
      · rw [if_pos c3] at h; cases h
      · rw [if_neg c3] at h; cases h

/-- THE SQUARE ROOT of a number from 1 to 2.02. -/
theorem RV.sqrt {a : Nat} {x : Rat} (ha : RV a x) (h1 : 1 ≤ x) (h2 : x ≤ 202 / 100) : ∃ r z, D.sqrt a = some r ∧ RV r z ∧ 999 / 1000 ≤ z ∧ z ≤ 143 / 100 := by
  obtain ⟨X, a1, a2⟩ := ha
  have hp := PP_pos
  obtain ⟨s, m, i, r1, hi, hm, hX⟩ := val_sg a1
  have hPe : PP = (((2 ^ 1074 : Nat) : Int) : Rat) := by unfold PP; rw [Rat.intCast_natCast]
  have x1 : ((2 ^ 1074 : Nat) : Int) ≤ X := by
    have : (((2 ^ 1074 : Nat) : Int) : Rat) ≤ (X : Rat) := by
      rw [a2, ← hPe]; have := mul_le_l (c := PP) h1 (by grind); grind
    exact Rat.intCast_le_intCast.1 this
  have x2 : 100 * X ≤ 202 * ((2 ^ 1074 : Nat) : Int) := by
    have : ((100 * X : Int) : Rat) ≤ ((202 * ((2 ^ 1074 : Nat) : Int) : Int) : Rat) := by
      rw [Rat.intCast_mul, Rat.intCast_mul, a2, ← hPe]
      have c1 : ((100 : Int) : Rat) = 100 := rfl
      have c2 : ((202 : Int) : Rat) = 202 := rfl
      rw [c1, c2]
      have := mul_le_l (c := PP) h2 (by grind); grind
    exact Rat.intCast_le_intCast.1 this
  have hs : s = false := by
    cases s with
    | false => rfl
    | true =>
      have : X ≤ 0 := by
        rw [hX]; show -((m * 2 ^ (i + 1074).toNat : Nat) : Int) ≤ 0
        exact Int.neg_nonpos_of_nonneg (Int.natCast_nonneg _)
      have : (0 : Int) < ((2 ^ 1074 : Nat) : Int) := Int.natCast_pos.2 (Nat.two_pow_pos _)
      omega
  subst hs
  have hXn : X = ((m * 2 ^ (i + 1074).toNat : Nat) : Int) := by rw [hX]; rfl
  rw [hXn] at x1 x2
  have y1 : 2 ^ 1074 ≤ m * 2 ^ (i + 1074).toNat := by omega
  have y2 : 100 * (m * 2 ^ (i + 1074).toNat) ≤ 202 * 2 ^ 1074 := by omega
  have hm0 : m ≠ 0 := by rintro rfl; rw [Nat.zero_mul] at y1; exact absurd y1 (by have := Nat.two_pow_pos 1074; omega)
  have hilow : -52 ≤ i := by
    have : 2 ^ 1074 < 2 ^ (53 + (i + 1074).toNat) := by
      rw [Nat.pow_add]
      exact Nat.lt_of_le_of_lt y1 (Nat.mul_lt_mul_of_pos_right hm (Nat.two_pow_pos _))
    have := (Nat.pow_lt_pow_iff_right (a := 2) (by omega)).1 this
    omega
  have hm52 : 2 ^ 52 ≤ m := by
    rcases read_normal r1 with h | h
    · exact h
    · omega
  have hihigh : i ≤ -51 := by
    by_cases h : i ≤ -51
    · exact h
    · exfalso
      have e : (i + 1074).toNat = 1024 + (i + 50).toNat := by omega
      have q1 : 2 ^ 52 * 2 ^ (1024 + (i + 50).toNat) ≤ m * 2 ^ (i + 1074).toNat := by rw [e]; exact Nat.mul_le_mul_right _ hm52
      rw [← Nat.pow_add] at q1
      have q2 : 2 ^ 1076 ≤ 2 ^ (52 + (1024 + (i + 50).toNat)) := Nat.pow_le_pow_right (by omega) (by omega)
      have q3 : 2 ^ 1076 = 4 * 2 ^ 1074 := by rw [show 1076 = 2 + 1074 by rfl, Nat.pow_add]
      have := Nat.two_pow_pos 1074
      omega
  have hlog : m.log2 = 52 := by
    have a1 : m.log2 < 53 := (Nat.log2_lt hm0).2 hm
    have a2 : 52 ≤ m.log2 := (Nat.le_log2 hm0).2 hm52
    omega
  -- the number under the root
  obtain ⟨k, n, w, hk, hn, hroot⟩ : ∃ k n w : Nat, (k = 56 ∧ i = -52 ∨ k = 57 ∧ i = -51) ∧ n = m * 2 ^ k ∧ w = Ieee.Datum.rootFrom n (n.log2 / 2 + 1) 0 := ⟨if i = -52 then 56 else 57, m * 2 ^ (if i = -52 then 56 else 57), _, by split <;> omega, rfl, rfl⟩
  have hsq : (D.read a).root 54 = some (.number false (2 * w + (w * w != n).toNat) (-55)) := by
    rw [r1]
    simp only [Ieee.Datum.root]
    rw [if_neg hm0, hlog]
    rcases hk with ⟨rfl, rfl⟩ | ⟨rfl, rfl⟩
    · have e1 : (2 * 54 - 52 + ((-52 - ((2 * 54 - 52 : Nat) : Int)) % 2).toNat) = 56 := by decide
      have e2 : (-52 - ((56 : Nat) : Int)) / 2 - 1 = -55 := by decide
      rw [e1, e2, Nat.shiftLeft_eq, ← hn, ← hroot]; rfl
    · have e1 : (2 * 54 - 52 + ((-51 - ((2 * 54 - 52 : Nat) : Int)) % 2).toNat) = 57 := by decide
      have e2 : (-51 - ((57 : Nat) : Int)) / 2 - 1 = -55 := by decide
      rw [e1, e2, Nat.shiftLeft_eq, ← hn, ← hroot]; rfl
  have hn0 : n ≠ 0 := by
    rw [hn]; exact Nat.mul_ne_zero hm0 (Nat.ne_of_gt (Nat.two_pow_pos _))
  obtain ⟨w1, w2⟩ := rootFrom_spec n (n.log2 / 2 + 1) 0 (by omega) (by
    rw [Nat.zero_add, ← Nat.pow_add]
    have : n < 2 ^ (n.log2 + 1) := Nat.lt_log2_self
    exact Nat.lt_of_lt_of_le this (Nat.pow_le_pow_right (by omega) (by omega)))
  rw [← hroot] at w1 w2
  have n1 : 2 ^ 108 ≤ n := by
    rcases hk with ⟨rfl, _⟩ | ⟨rfl, _⟩ <;> omega
  have n2 : 100 * n ≤ 202 * 2 ^ 108 := by
    rcases hk with ⟨rfl, rfl⟩ | ⟨rfl, rfl⟩
    · have e : ((-52 : Int) + 1074).toNat = 1022 := by decide
      rw [e, show (2 : Nat) ^ 1074 = 2 ^ 52 * 2 ^ 1022 by rw [← Nat.pow_add], ← Nat.mul_assoc, ← Nat.mul_assoc] at y2
      have := Nat.le_of_mul_le_mul_right y2 (Nat.two_pow_pos _)
      omega
    · have e : ((-51 : Int) + 1074).toNat = 1023 := by decide
      rw [e, show (2 : Nat) ^ 1074 = 2 ^ 51 * 2 ^ 1023 by rw [← Nat.pow_add], ← Nat.mul_assoc, ← Nat.mul_assoc] at y2
      have := Nat.le_of_mul_le_mul_right y2 (Nat.two_pow_pos _)
      omega
  have w3 : 2 ^ 54 ≤ w := by
    by_cases h : 2 ^ 54 ≤ w
    · exact h
    · exfalso
      have : (w + 1) * (w + 1) ≤ 2 ^ 54 * 2 ^ 54 := Nat.mul_le_mul (by omega) (by omega)
      rw [← Nat.pow_add] at this
      omega
  have w4 : 10000 * w ≤ 14220 * 2 ^ 54 := by
    by_cases h : 10000 * w ≤ 14220 * 2 ^ 54
    · exact h
    · exfalso
      have : (14220 * 2 ^ 54) * (14220 * 2 ^ 54) ≤ (10000 * w) * (10000 * w) := Nat.mul_le_mul (by omega) (by omega)
      have e : (10000 * w) * (10000 * w) = 100000000 * (w * w) := by rw [Nat.mul_assoc, Nat.mul_left_comm w, ← Nat.mul_assoc]
      rw [e] at this
      omega
  obtain ⟨st, hst⟩ : ∃ st, st = (w * w != n).toNat := ⟨_, rfl⟩
  have hst1 : st ≤ 1 := by rw [hst]; cases (w * w != n) <;> decide
  rw [← hst] at hsq
  clear hst hn hroot w1 w2 n1 n2 y1 y2 x1 x2
  have hpp : 0 < PP * PP := Rat.mul_pos hp hp
  obtain ⟨mag, hmag⟩ : ∃ mag, mag = 2 * w + st := ⟨_, rfl⟩
  have m1 : 2 ^ 55 ≤ mag := by omega
  have m2 : 10000 * mag ≤ 14221 * 2 ^ 55 := by omega
  rw [← hmag] at hsq
  have hxw : ((sg false (mag * 2 ^ ((-55 : Int) + 2148).toNat) : Int) : Rat) = (mag : Rat) / 36028797018963968 * (PP * PP) := by
    have e : ((-55 : Int) + 2148).toNat = 2093 := by decide
    rw [e]
    have e2 : PP * PP = 36028797018963968 * ((2 ^ 2093 : Nat) : Rat) := by
      have : (36028797018963968 : Rat) = ((2 ^ 55 : Nat) : Rat) := rfl
      rw [this]
      unfold PP
      rw [← Rat.natCast_mul, ← Nat.pow_add, ← Rat.natCast_mul, ← Nat.pow_add]
    rw [e2]
    show (((mag * 2 ^ 2093 : Nat) : Int) : Rat) = _
    rw [Rat.intCast_natCast, Rat.natCast_mul]
    grind
  have c1 : (36028797018963968 : Rat) ≤ (mag : Rat) := by
    have := Rat.natCast_le_natCast.2 m1
    exact this
  have c2 : 10000 * (mag : Rat) ≤ 14221 * 36028797018963968 := by
    have := Rat.natCast_le_natCast.2 m2
    rw [Rat.natCast_mul, Rat.natCast_mul] at this
    exact this
  have hb : Bd ((mag : Rat) / 36028797018963968) (14221 / 10000) := by unfold Bd; grind
  obtain ⟨Z, hZ, z1, _⟩ := write_val false mag (-55) (by decide) _ rfl (natAbs_lt hpp hxw hb (by
    have e : ((2 ^ 3148 : Nat) : Rat) = ((2 ^ 1000 : Nat) : Rat) * (PP * PP) := by
      unfold PP
      rw [← Rat.natCast_mul, ← Nat.pow_add, ← Rat.natCast_mul, ← Nat.pow_add]
    rw [e]
    refine Rat.mul_lt_mul_of_pos_right ?_ hpp
    have e2 : ((2 ^ 102 : Nat) : Rat) ≤ ((2 ^ 1000 : Nat) : Rat) := Rat.natCast_le_natCast.2 (Nat.pow_le_pow_right (by omega) (by omega))
    have e3 : ((2 ^ 102 : Nat) : Rat) = 5070602400912917605986812821504 := rfl
    grind))
  have hZr : (Z : Rat) = (Z : Rat) / PP * PP := (Rat.div_mul_cancel (by grind)).symm
  have hZ2 : ((Z * 2 ^ 1074 : Int) : Rat) = (Z : Rat) / PP * (PP * PP) := by
    rw [Rat.intCast_mul, ← Rat.mul_assoc, ← hZr]
    congr 1
  have hr := round_rat hpp z1 hZ2 hxw hb eps_2 (by unfold dl; grind)
  refine ⟨D.write (.number false mag (-55)), (Z : Rat) / PP, ?_, ⟨Z, hZ, hZr⟩, ?_, ?_⟩
  · show ((D.read a).root 54).map D.write = _
    rw [hsq]; rfl
  · unfold Bd uu at hr; grind
  · unfold Bd uu at hr; grind

/-- THE SQUARE ROOT of a number from 0.999 to 1. -/
theorem RV.sqrt_low {a : Nat} {x : Rat} (ha : RV a x) (h1 : 999 / 1000 ≤ x) (h2 : x < 1) : ∃ r z, D.sqrt a = some r ∧ RV r z ∧ 997 / 1000 ≤ z ∧ z ≤ 143 / 100 := by
  obtain ⟨X, a1, a2⟩ := ha
  have hp := PP_pos
  obtain ⟨s, m, i, r1, hi, hm, hX⟩ := val_sg a1
  have hPe : PP = (((2 ^ 1074 : Nat) : Int) : Rat) := by unfold PP; rw [Rat.intCast_natCast]
  have x1 : 999 * ((2 ^ 1074 : Nat) : Int) ≤ 1000 * X := by
    have : ((999 * ((2 ^ 1074 : Nat) : Int) : Int) : Rat) ≤ ((1000 * X : Int) : Rat) := by
      rw [Rat.intCast_mul, Rat.intCast_mul, a2, ← hPe]
      have c1 : ((999 : Int) : Rat) = 999 := rfl
      have c2 : ((1000 : Int) : Rat) = 1000 := rfl
      rw [c1, c2]
      have := mul_le_l (c := PP) h1 (by grind); grind
    exact Rat.intCast_le_intCast.1 this
  have x2 : X < ((2 ^ 1074 : Nat) : Int) := by
    have : (X : Rat) < (((2 ^ 1074 : Nat) : Int) : Rat) := by
      rw [a2, ← hPe]
      have := Rat.mul_lt_mul_of_pos_right h2 hp; grind
    exact Rat.intCast_lt_intCast.1 this
  have hs : s = false := by
    cases s with
    | false => rfl
    | true =>
      have : X ≤ 0 := by
        rw [hX]; show -((m * 2 ^ (i + 1074).toNat : Nat) : Int) ≤ 0
        exact Int.neg_nonpos_of_nonneg (Int.natCast_nonneg _)
      have : (0 : Int) < ((2 ^ 1074 : Nat) : Int) := Int.natCast_pos.2 (Nat.two_pow_pos _)
      omega
  subst hs
  have hXn : X = ((m * 2 ^ (i + 1074).toNat : Nat) : Int) := by rw [hX]; rfl
  rw [hXn] at x1 x2
  have y1 : 999 * 2 ^ 1074 ≤ 1000 * (m * 2 ^ (i + 1074).toNat) := by omega
  have y2 : m * 2 ^ (i + 1074).toNat < 2 ^ 1074 := by omega
  have e1073 : (2 : Nat) ^ 1074 = 2 * 2 ^ 1073 := by rw [show 1074 = 1 + 1073 by rfl, Nat.pow_add]
  have y3 : 2 ^ 1073 ≤ m * 2 ^ (i + 1074).toNat := by omega
  have hm0 : m ≠ 0 := by rintro rfl; rw [Nat.zero_mul] at y3; exact absurd y3 (by have := Nat.two_pow_pos 1073; omega)
  have hilow : -53 ≤ i := by
    have : 2 ^ 1073 < 2 ^ (53 + (i + 1074).toNat) := by
      rw [Nat.pow_add]
      exact Nat.lt_of_le_of_lt y3 (Nat.mul_lt_mul_of_pos_right hm (Nat.two_pow_pos _))
    have := (Nat.pow_lt_pow_iff_right (a := 2) (by omega)).1 this
    omega
  have hm52 : 2 ^ 52 ≤ m := by
    rcases read_normal r1 with h | h
    · exact h
    · omega
  have hi53 : i = -53 := by
    by_cases h : i ≤ -53
    · omega
    · exfalso
      have e : (i + 1074).toNat = 1022 + (i + 52).toNat := by omega
      have q1 : 2 ^ 52 * 2 ^ (1022 + (i + 52).toNat) ≤ m * 2 ^ (i + 1074).toNat := by rw [e]; exact Nat.mul_le_mul_right _ hm52
      rw [← Nat.pow_add] at q1
      have q2 : 2 ^ 1074 ≤ 2 ^ (52 + (1022 + (i + 52).toNat)) := Nat.pow_le_pow_right (by omega) (by omega)
      omega
  subst hi53
  have hlog : m.log2 = 52 := by
    have a1 : m.log2 < 53 := (Nat.log2_lt hm0).2 hm
    have a2 : 52 ≤ m.log2 := (Nat.le_log2 hm0).2 hm52
    omega
  -- the number under the root
  obtain ⟨n, w, hn, hroot⟩ : ∃ n w : Nat, n = m * 2 ^ 57 ∧ w = Ieee.Datum.rootFrom n (n.log2 / 2 + 1) 0 := ⟨_, _, rfl, rfl⟩
  have hsq : (D.read a).root 54 = some (.number false (2 * w + (w * w != n).toNat) (-56)) := by
    rw [r1]
    simp only [Ieee.Datum.root]
    rw [if_neg hm0, hlog]
    have e1 : (2 * 54 - 52 + ((-53 - ((2 * 54 - 52 : Nat) : Int)) % 2).toNat) = 57 := by decide
    have e2 : (-53 - ((57 : Nat) : Int)) / 2 - 1 = -56 := by decide
    rw [e1, e2, Nat.shiftLeft_eq, ← hn, ← hroot]; rfl
  have hn0 : n ≠ 0 := by
    rw [hn]; exact Nat.mul_ne_zero hm0 (Nat.ne_of_gt (Nat.two_pow_pos _))
  obtain ⟨w1, w2⟩ := rootFrom_spec n (n.log2 / 2 + 1) 0 (by omega) (by
    rw [Nat.zero_add, ← Nat.pow_add]
    have : n < 2 ^ (n.log2 + 1) := Nat.lt_log2_self
    exact Nat.lt_of_lt_of_le this (Nat.pow_le_pow_right (by omega) (by omega)))
  rw [← hroot] at w1 w2
  have e53 : ((-53 : Int) + 1074).toNat = 1021 := by decide
  have n1 : 999 * 2 ^ 110 ≤ 1000 * n := by
    rw [e53, show (2 : Nat) ^ 1074 = 2 ^ 53 * 2 ^ 1021 by rw [← Nat.pow_add], ← Nat.mul_assoc, ← Nat.mul_assoc] at y1
    have := Nat.le_of_mul_le_mul_right y1 (Nat.two_pow_pos _)
    omega
  have n2 : n < 2 ^ 110 := by omega
  have w3 : 999 * 2 ^ 55 ≤ 1000 * (w + 1) := by
    by_cases h : 999 * 2 ^ 55 ≤ 1000 * (w + 1)
    · exact h
    · exfalso
      have : (1000 * (w + 1)) * (1000 * (w + 1)) ≤ (999 * 2 ^ 55) * (999 * 2 ^ 55) := Nat.mul_le_mul (by omega) (by omega)
      have e : (1000 * (w + 1)) * (1000 * (w + 1)) = 1000000 * ((w + 1) * (w + 1)) := by rw [Nat.mul_assoc, Nat.mul_left_comm (w + 1), ← Nat.mul_assoc]
      rw [e] at this
      omega
  have w4 : w < 2 ^ 55 := by
    by_cases h : w < 2 ^ 55
    · exact h
    · exfalso
      have : 2 ^ 55 * 2 ^ 55 ≤ w * w := Nat.mul_le_mul (by omega) (by omega)
      rw [← Nat.pow_add] at this
      omega
  obtain ⟨st, hst⟩ : ∃ st, st = (w * w != n).toNat := ⟨_, rfl⟩
  have hst1 : st ≤ 1 := by rw [hst]; cases (w * w != n) <;> decide
  rw [← hst] at hsq
  clear hst hn hroot w1 w2 n1 n2 y1 y2 y3 x1 x2
  have hpp : 0 < PP * PP := Rat.mul_pos hp hp
  obtain ⟨mag, hmag⟩ : ∃ mag, mag = 2 * w + st := ⟨_, rfl⟩
  have m1 : 998 * 2 ^ 56 ≤ 1000 * mag := by omega
  have m2 : mag ≤ 2 ^ 56 := by omega
  rw [← hmag] at hsq
  have hxw : ((sg false (mag * 2 ^ ((-56 : Int) + 2148).toNat) : Int) : Rat) = (mag : Rat) / 72057594037927936 * (PP * PP) := by
    have e : ((-56 : Int) + 2148).toNat = 2092 := by decide
    rw [e]
    have e2 : PP * PP = 72057594037927936 * ((2 ^ 2092 : Nat) : Rat) := by
      have : (72057594037927936 : Rat) = ((2 ^ 56 : Nat) : Rat) := rfl
      rw [this]
      unfold PP
      rw [← Rat.natCast_mul, ← Nat.pow_add, ← Rat.natCast_mul, ← Nat.pow_add]
    rw [e2]
    show (((mag * 2 ^ 2092 : Nat) : Int) : Rat) = _
    rw [Rat.intCast_natCast, Rat.natCast_mul]
    grind
  have c1 : 998 * (72057594037927936 : Rat) ≤ 1000 * (mag : Rat) := by
    have := Rat.natCast_le_natCast.2 m1
    rw [Rat.natCast_mul, Rat.natCast_mul] at this
    exact this
  have c2 : (mag : Rat) ≤ 72057594037927936 := by
    have := Rat.natCast_le_natCast.2 m2
    exact this
  have hb : Bd ((mag : Rat) / 72057594037927936) (14221 / 10000) := by unfold Bd; grind
  obtain ⟨Z, hZ, z1, _⟩ := write_val false mag (-56) (by decide) _ rfl (natAbs_lt hpp hxw hb (by
    have e : ((2 ^ 3148 : Nat) : Rat) = ((2 ^ 1000 : Nat) : Rat) * (PP * PP) := by
      unfold PP
      rw [← Rat.natCast_mul, ← Nat.pow_add, ← Rat.natCast_mul, ← Nat.pow_add]
    rw [e]
    refine Rat.mul_lt_mul_of_pos_right ?_ hpp
    have e2 : ((2 ^ 102 : Nat) : Rat) ≤ ((2 ^ 1000 : Nat) : Rat) := Rat.natCast_le_natCast.2 (Nat.pow_le_pow_right (by omega) (by omega))
    have e3 : ((2 ^ 102 : Nat) : Rat) = 5070602400912917605986812821504 := rfl
    grind))
  have hZr : (Z : Rat) = (Z : Rat) / PP * PP := (Rat.div_mul_cancel (by grind)).symm
  have hZ2 : ((Z * 2 ^ 1074 : Int) : Rat) = (Z : Rat) / PP * (PP * PP) := by
    rw [Rat.intCast_mul, ← Rat.mul_assoc, ← hZr]
    congr 1
  have hr := round_rat hpp z1 hZ2 hxw hb eps_2 (by unfold dl; grind)
  refine ⟨D.write (.number false mag (-56)), (Z : Rat) / PP, ?_, ⟨Z, hZ, hZr⟩, ?_, ?_⟩
  · show ((D.read a).root 54).map D.write = _
    rw [hsq]; rfl
  · unfold Bd uu at hr; grind
  · unfold Bd uu at hr; grind

end Go.Proofs.Ytdeigbbilcjgjaa
