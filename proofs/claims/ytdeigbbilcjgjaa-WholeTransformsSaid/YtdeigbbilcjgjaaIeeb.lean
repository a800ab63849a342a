/-
  The values that the operations on float64 words give.
-/
import Derived.Test.YtdeigbbilcjgjaaIeee
namespace Go.Proofs.Ytdeigbbilcjgjaa
set_option exponentiation.threshold 5000
set_option linter.unusedVariables false
set_option linter.unusedSimpArgs false

theorem val_some {b : Nat} {x : Int} (h : val b = some x) : ∃ s m e, D.read b = .number s m e ∧ -1074 ≤ e ∧ m < 2 ^ 53 ∧ x = if s then -((m * 2 ^ (e + 1074).toNat : Nat) : Int) else ((m * 2 ^ (e + 1074).toNat : Nat) : Int) := by
  unfold val at h
  cases hd : D.read b with
  | number s m e =>
    rw [hd] at h
    obtain ⟨h1, _, h2⟩ := read_number hd
    exact ⟨s, m, e, rfl, h1, h2, (Option.some.inj h).symm⟩
  | infinity s => rw [hd] at h; cases h
  | nan s t => rw [hd] at h; cases h

/-- The value of the word that is written for a number. -/
theorem write_val (s : Bool) (m : Nat) (e : Int) (he : -2148 ≤ e) (X : Int) (hX : X = if s then -((m * 2 ^ (e + 2148).toNat : Nat) : Int) else ((m * 2 ^ (e + 2148).toNat : Nat) : Int)) (hlt : X.natAbs < 2 ^ 3148) :
    ∃ z : Int, val (D.write (.number s m e)) = some z ∧ 2 ^ 53 * (z * 2 ^ 1074 - X).natAbs ≤ X.natAbs + 2 ^ 1126 ∧
      (∀ n t, X.natAbs = n * 2 ^ (1074 + t) → n < 2 ^ 53 → z * 2 ^ 1074 = X) := by
  obtain ⟨p, hp⟩ : ∃ p : Nat, e = -2148 + p := ⟨(e + 2148).toNat, by omega⟩
  have hpe : (e + 2148).toNat = p := by omega
  rw [hpe] at hX
  have hW : X.natAbs = m * 2 ^ p := by
    rw [hX]; split
    · rw [Int.natAbs_neg, Int.natAbs_natCast]
    · rw [Int.natAbs_natCast]
  rw [hW] at hlt ⊢
  obtain ⟨v, hv, h1, h2, h3⟩ := nearest_val s m p hlt
  refine ⟨_, by rw [hp]; exact hv, ?_, fun n t hn hn53 => ?_⟩
  · clear hlt hv h3 hW
    have c1 : ((v * 2 ^ 1074 : Nat) : Int) = (v : Int) * 2 ^ 1074 := by simp
    generalize m * 2 ^ p = W at *
    have key : (2 ^ 53 * (v * 2 ^ 1074) : Nat) ≤ 2 ^ 53 * W + W + 2 ^ 1126 := h1
    generalize hV : v * 2 ^ 1074 = V at *
    generalize 2 ^ 1126 = E at *
    rw [hX]
    split
    · rw [Int.neg_mul, ← c1]; omega
    · rw [← c1]; omega
  · have e := h3 n t hn hn53
    have c : ((v * 2 ^ 1074 : Nat) : Int) = (v : Int) * 2 ^ 1074 := by simp
    rw [hX]
    split
    · rw [Int.neg_mul, ← c, e]
    · rw [← c, e]

/-- A sign and a size. -/
def sg (s : Bool) (n : Nat) : Int := if s then -(n : Int) else (n : Int)
theorem sg_mul (s : Bool) (n k : Nat) : sg s (n * k) = sg s n * (k : Int) := by
  unfold sg; split <;> simp [Int.neg_mul]
theorem signed_eq (s : Bool) (m k : Nat) : Ieee.signed s m k = sg s (m * 2 ^ k) := by
  unfold Ieee.signed sg; rw [Nat.shiftLeft_eq]
theorem sg_natAbs (s : Bool) (n : Nat) : (sg s n).natAbs = n := by unfold sg; split <;> simp
theorem sg_of (T : Int) (s : Bool) (h : if T = 0 then True else s = decide (T < 0)) : sg s T.natAbs = T := by
  unfold sg
  by_cases h0 : T = 0
  · subst h0; split <;> rfl
  · rw [if_neg h0] at h
    subst h
    by_cases h1 : T < 0
    · simp [h1]; omega
    · simp [h1]; omega

theorem val_sg {b : Nat} {x : Int} (h : val b = some x) : ∃ s m e, D.read b = .number s m e ∧ -1074 ≤ e ∧ m < 2 ^ 53 ∧ x = sg s (m * 2 ^ (e + 1074).toNat) := val_some h

/-- The exact sum of two data. -/
theorem dsum_val (s t : Bool) (m n : Nat) (i j : Int) (hi : -1074 ≤ i) (hj : -1074 ≤ j) :
    ∃ u k e, (Ieee.Datum.number s m i).sum (.number t n j) = some (.number u k e) ∧ -1074 ≤ e ∧
      sg u (k * 2 ^ (e + 2148).toNat) = (sg s (m * 2 ^ (i + 1074).toNat) + sg t (n * 2 ^ (j + 1074).toNat)) * 2 ^ 1074 := by
  refine ⟨_, _, _, rfl, by omega, ?_⟩
  generalize hT : Ieee.signed s m (i - min i j).toNat + Ieee.signed t n (j - min i j).toNat = T
  have hb : -1074 ≤ min i j := by omega
  rw [sg_mul, sg_of T _ (by split <;> simp [*])]
  have e1 : (min i j + 2148).toNat = (min i j + 1074).toNat + 1074 := by omega
  rw [e1, Nat.pow_add, ← hT, signed_eq, signed_eq]
  have f : ∀ (s : Bool) (m : Nat) (i b : Int), b ≤ i → -1074 ≤ b → sg s (m * 2 ^ (i - b).toNat) * ((2 ^ (b + 1074).toNat : Nat) : Int) = sg s (m * 2 ^ (i + 1074).toNat) := by
    intro s m i b h1 h2
    rw [← sg_mul, Nat.mul_assoc, ← Nat.pow_add, show (i - b).toNat + (b + 1074).toNat = (i + 1074).toNat by omega]
  rw [Int.natCast_mul, ← Int.mul_assoc, Int.add_mul, f s m i _ (by omega) hb, f t n j _ (by omega) hb]
  simp

theorem dprod_val (s t : Bool) (m n : Nat) (i j : Int) (hi : -1074 ≤ i) (hj : -1074 ≤ j) :
    sg (s ^^ t) (m * n * 2 ^ (i + j + 2148).toNat) = sg s (m * 2 ^ (i + 1074).toNat) * sg t (n * 2 ^ (j + 1074).toNat) := by
  have e : (i + j + 2148).toNat = (i + 1074).toNat + (j + 1074).toNat := by omega
  rw [e, Nat.pow_add]
  generalize 2 ^ (i + 1074).toNat = a
  generalize 2 ^ (j + 1074).toNat = b
  have h : m * n * (a * b) = m * a * (n * b) := by simp only [Nat.mul_assoc, Nat.mul_comm, Nat.mul_left_comm]
  rw [h]
  cases s <;> cases t <;> simp [sg, Int.neg_mul, Int.mul_neg]

theorem scale_down (z S : Int) (h : 2 ^ 53 * (z * 2 ^ 1074 - S * 2 ^ 1074).natAbs ≤ (S * 2 ^ 1074).natAbs + 2 ^ 1126) : 2 ^ 53 * (z - S).natAbs ≤ S.natAbs + 2 ^ 52 := by
  have h1 : (z * 2 ^ 1074 - S * 2 ^ 1074).natAbs = (z - S).natAbs * 2 ^ 1074 := by rw [← Int.sub_mul, Int.natAbs_mul]; rfl
  have h2 : (S * 2 ^ 1074).natAbs = S.natAbs * 2 ^ 1074 := by rw [Int.natAbs_mul]; rfl
  rw [h1, h2, show (2 : Nat) ^ 1126 = 2 ^ 52 * 2 ^ 1074 by rw [← Nat.pow_add], ← Nat.add_mul, ← Nat.mul_assoc] at h
  exact Nat.le_of_mul_le_mul_right h (Nat.two_pow_pos _)

/-- ADDITION: the value is the sum but for half a 2^53rd part of it (or half a unit). -/
theorem add_val {a b : Nat} {x y : Int} (ha : val a = some x) (hb : val b = some y) (hlt : (x + y).natAbs < 2 ^ 2074) :
    ∃ r z, fAdd a b = some r ∧ val r = some z ∧ 2 ^ 53 * (z - (x + y)).natAbs ≤ (x + y).natAbs + 2 ^ 52 ∧ (∀ n t, (x + y).natAbs = n * 2 ^ t → n < 2 ^ 53 → z = x + y) := by
  obtain ⟨s, m, i, h1, h2, _, rfl⟩ := val_sg ha
  obtain ⟨t, n, j, h3, h4, _, rfl⟩ := val_sg hb
  obtain ⟨u, k, e, hs, he, hv⟩ := dsum_val s t m n i j h2 h4
  generalize sg s (m * 2 ^ (i + 1074).toNat) + sg t (n * 2 ^ (j + 1074).toNat) = S at *
  have hX : (S * 2 ^ 1074).natAbs = S.natAbs * 2 ^ 1074 := by rw [Int.natAbs_mul]; rfl
  obtain ⟨z, hz, g1, g2⟩ := write_val u k e (by omega) (S * 2 ^ 1074) hv.symm (by
    rw [hX, show (2 : Nat) ^ 3148 = 2 ^ 2074 * 2 ^ 1074 by rw [← Nat.pow_add]]
    exact Nat.mul_lt_mul_of_pos_right hlt (Nat.two_pow_pos _))
  refine ⟨D.write (.number u k e), z, ?_, hz, scale_down z S g1, fun n' t' hn hn53 => ?_⟩
  · show ((D.read a).sum (D.read b)).map D.write = _
    rw [h1, h3, hs]; rfl
  · have := g2 n' t' (by rw [hX, hn, Nat.mul_assoc, ← Nat.pow_add, Nat.add_comm t']) hn53
    exact Int.eq_of_mul_eq_mul_right (by decide) this

theorem opp_dval {b : Nat} {s : Bool} {m : Nat} {e : Int} (h : D.read b = .number s m e) : (D.read b).opposite = .number (!s) m e := by rw [h]; rfl
theorem sg_not (s : Bool) (n : Nat) : sg (!s) n = -sg s n := by cases s <;> simp [sg]

theorem sub_val {a b : Nat} {x y : Int} (ha : val a = some x) (hb : val b = some y) (hlt : (x - y).natAbs < 2 ^ 2074) :
    ∃ r z, fSub a b = some r ∧ val r = some z ∧ 2 ^ 53 * (z - (x - y)).natAbs ≤ (x - y).natAbs + 2 ^ 52 ∧ (∀ n t, (x - y).natAbs = n * 2 ^ t → n < 2 ^ 53 → z = x - y) := by
  obtain ⟨s, m, i, h1, h2, _, rfl⟩ := val_sg ha
  obtain ⟨t, n, j, h3, h4, _, rfl⟩ := val_sg hb
  obtain ⟨u, k, e, hs, he, hv⟩ := dsum_val s (!t) m n i j h2 h4
  rw [sg_not, ← Int.sub_eq_add_neg] at hv
  generalize sg s (m * 2 ^ (i + 1074).toNat) - sg t (n * 2 ^ (j + 1074).toNat) = S at *
  have hX : (S * 2 ^ 1074).natAbs = S.natAbs * 2 ^ 1074 := by rw [Int.natAbs_mul]; rfl
  obtain ⟨z, hz, g1, g2⟩ := write_val u k e (by omega) (S * 2 ^ 1074) hv.symm (by
    rw [hX, show (2 : Nat) ^ 3148 = 2 ^ 2074 * 2 ^ 1074 by rw [← Nat.pow_add]]
    exact Nat.mul_lt_mul_of_pos_right hlt (Nat.two_pow_pos _))
  refine ⟨D.write (.number u k e), z, ?_, hz, scale_down z S g1, fun n' t' hn hn53 => ?_⟩
  · show ((D.read a).sum (D.read b).opposite).map D.write = _
    rw [opp_dval h3, h1, hs]; rfl
  · have := g2 n' t' (by rw [hX, hn, Nat.mul_assoc, ← Nat.pow_add, Nat.add_comm t']) hn53
    exact Int.eq_of_mul_eq_mul_right (by decide) this

/-- MULTIPLICATION. -/
theorem mul_val {a b : Nat} {x y : Int} (ha : val a = some x) (hb : val b = some y) (hlt : (x * y).natAbs < 2 ^ 3148) :
    ∃ r z, fMul a b = some r ∧ val r = some z ∧ 2 ^ 53 * (z * 2 ^ 1074 - x * y).natAbs ≤ (x * y).natAbs + 2 ^ 1126 ∧ (∀ n t, (x * y).natAbs = n * 2 ^ (1074 + t) → n < 2 ^ 53 → z * 2 ^ 1074 = x * y) := by
  obtain ⟨s, m, i, h1, h2, _, rfl⟩ := val_sg ha
  obtain ⟨t, n, j, h3, h4, _, rfl⟩ := val_sg hb
  have hv := dprod_val s t m n i j h2 h4
  generalize sg s (m * 2 ^ (i + 1074).toNat) * sg t (n * 2 ^ (j + 1074).toNat) = S at *
  obtain ⟨z, hz, g1, g2⟩ := write_val (s ^^ t) (m * n) (i + j) (by omega) S hv.symm hlt
  refine ⟨D.write (.number (s ^^ t) (m * n) (i + j)), z, ?_, hz, g1, g2⟩
  show ((D.read a).product (D.read b)).map D.write = _
  rw [h1, h3]; rfl

/-- What two values say of the order. -/
theorem order_val {a b : Nat} {x y : Int} (ha : val a = some x) (hb : val b = some y) : D.order a b = some (compare x y) := by
  obtain ⟨s, m, i, h1, h2, _, rfl⟩ := val_sg ha
  obtain ⟨t, n, j, h3, h4, _, rfl⟩ := val_sg hb
  show (D.read a).order (D.read b) = _
  rw [h1, h3]
  show some (compare _ _) = _
  rw [signed_eq, signed_eq]
  have f : ∀ (s : Bool) (m : Nat) (i b : Int), b ≤ i → -1074 ≤ b → sg s (m * 2 ^ (i - b).toNat) * ((2 ^ (b + 1074).toNat : Nat) : Int) = sg s (m * 2 ^ (i + 1074).toNat) := by
    intro s m i b h1 h2
    rw [← sg_mul, Nat.mul_assoc, ← Nat.pow_add, show (i - b).toNat + (b + 1074).toNat = (i + 1074).toNat by omega]
  have hb1 : -1074 ≤ min i j := by omega
  rw [← f s m i _ (by omega) hb1, ← f t n j _ (by omega) hb1]
  have hp : (0 : Int) < ((2 ^ (min i j + 1074).toNat : Nat) : Int) := Int.natCast_pos.2 (Nat.two_pow_pos _)
  generalize ((2 ^ (min i j + 1074).toNat : Nat) : Int) = g at hp
  generalize sg s (m * 2 ^ (i - min i j).toNat) = p
  generalize sg t (n * 2 ^ (j - min i j).toNat) = q
  congr 1
  rcases Int.lt_trichotomy p q with h | h | h
  · rw [Int.compare_eq_lt.2 h, Int.compare_eq_lt.2 (Int.mul_lt_mul_of_pos_right h hp)]
  · rw [h]; simp
  · rw [Int.compare_eq_gt.2 h, Int.compare_eq_gt.2 (Int.mul_lt_mul_of_pos_right h hp)]

theorem xor_low (b : Nat) : (b ^^^ 2 ^ 63) % 2 ^ 63 = b % 2 ^ 63 := by
  rw [Nat.xor_mod_two_pow, Nat.mod_self, Nat.xor_zero]
theorem xor_high (b : Nat) : ((b ^^^ 2 ^ 63) / 2 ^ 63 % 2 == 1) = !(b / 2 ^ 63 % 2 == 1) := by
  rw [Nat.xor_div_two_pow, Nat.div_self (Nat.two_pow_pos 63)]
  generalize b / 2 ^ 63 = q
  have h := Nat.xor_mod_two_pow (a := q) (b := 1) (n := 1)
  rw [Nat.pow_one] at h
  rw [h]
  rcases Nat.mod_two_eq_zero_or_one q with e | e <;> rw [e] <;> rfl

/-- NEGATION. -/
theorem neg_val {a : Nat} {x : Int} (ha : val a = some x) : val (fNeg a) = some (-x) := by
  have hr : D.read (fNeg a) = (D.read a).opposite := by
    show D.read (a ^^^ 2 ^ 63) = _
    rw [read_eq, read_eq, xor_low, xor_high]
    by_cases c1 : a % 2 ^ 63 < 2 ^ 52
    · rw [if_pos c1, if_pos c1]; rfl
    · rw [if_neg c1, if_neg c1]
      by_cases c2 : a % 2 ^ 63 < 2047 * 2 ^ 52
      · rw [if_pos c2, if_pos c2]; rfl
      · rw [if_neg c2, if_neg c2]
        by_cases c3 : a % 2 ^ 63 = 2047 * 2 ^ 52
        · rw [if_pos c3, if_pos c3]; rfl
        · rw [if_neg c3, if_neg c3]; rfl
  obtain ⟨s, m, i, h1, h2, _, rfl⟩ := val_sg ha
  unfold val
  rw [hr, h1]
  show some (sg (!s) _) = _
  rw [sg_not]

/-- A whole number as a float. -/
theorem ofInt_val (n : Int) (h : n.natAbs < 2 ^ 53) : val (floatOfInt .f64 n) = some (n * 2 ^ 1074) := by
  have hX : n * 2 ^ 2148 = sg (decide (n < 0)) (n.natAbs * 2 ^ ((0 : Int) + 2148).toNat) := by
    rw [sg_mul, sg_of n _ (by split <;> simp)]; simp
  obtain ⟨z, hz, _, g2⟩ := write_val (decide (n < 0)) n.natAbs 0 (by omega) (n * 2 ^ 2148) hX (by
    rw [Int.natAbs_mul]
    have : ((2 : Int) ^ 2148).natAbs = 2 ^ 2148 := by rw [Int.natAbs_pow]; rfl
    rw [this, show (2 : Nat) ^ 3148 = 2 ^ 1000 * 2 ^ 2148 by rw [← Nat.pow_add]]
    exact Nat.mul_lt_mul_of_pos_right (Nat.lt_trans h (Nat.pow_lt_pow_right (by omega) (by omega))) (Nat.two_pow_pos _))
  have hq := g2 n.natAbs 1074 (by rw [Int.natAbs_mul, Int.natAbs_pow]; rfl) h
  have e : (2 : Int) ^ 2148 = 2 ^ 1074 * 2 ^ 1074 := by rw [← Int.pow_add]
  rw [e, ← Int.mul_assoc] at hq
  have := Int.eq_of_mul_eq_mul_right (by decide) hq
  rw [← this]
  exact hz

end Go.Proofs.Ytdeigbbilcjgjaa
