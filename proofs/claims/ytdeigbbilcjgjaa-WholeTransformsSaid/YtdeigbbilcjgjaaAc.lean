/-
  What cplx.Abs answers, nearly.
-/
import Derived.Test.YtdeigbbilcjgjaaIt
import Derived.Test.YtdeigbbilcjgjaaAb
namespace Go.Proofs.Ytdeigbbilcjgjaa
set_option exponentiation.threshold 5000
set_option linter.unusedVariables false
set_option linter.unusedSimpArgs false

theorem abs_val {b : Nat} {z : Int} (h : val b = some z) : val (b % 9223372036854775808) = some ((z.natAbs : Nat) : Int) := by
  have hm : b % 9223372036854775808 % 2 ^ 63 = b % 2 ^ 63 := by rw [show (2 : Nat) ^ 63 = 9223372036854775808 by rfl, Nat.mod_mod]
  have hs : (b % 9223372036854775808 / 2 ^ 63 % 2 == 1) = false := by
    have : b % 9223372036854775808 / 2 ^ 63 = 0 := Nat.div_eq_of_lt (by rw [show (2 : Nat) ^ 63 = 9223372036854775808 by rfl]; exact Nat.mod_lt _ (by omega))
    rw [this]; rfl
  unfold val at h ⊢
  rw [read_eq] at h ⊢
  rw [hm, hs]
  by_cases c1 : b % 2 ^ 63 < 2 ^ 52
  · rw [if_pos c1] at h ⊢
    have e := Option.some.inj h
    show some (((b % 2 ^ 63 * 2 ^ ((-1074 : Int) + 1074).toNat : Nat)) : Int) = _
    rw [← e]
    split <;> simp only [Int.natAbs_neg, Int.natAbs_natCast]
  · rw [if_neg c1] at h ⊢
    by_cases c2 : b % 2 ^ 63 < 2047 * 2 ^ 52
    · rw [if_pos c2] at h ⊢
      have e := Option.some.inj h
      show some ((((2 ^ 52 + b % 2 ^ 63 % 2 ^ 52) * 2 ^ ((-1074 + ((b % 2 ^ 63 / 2 ^ 52 - 1 : Nat) : Int)) + 1074).toNat : Nat)) : Int) = _
      rw [← e]
      split <;> simp only [Int.natAbs_neg, Int.natAbs_natCast]
    · rw [if_neg c2] at h
      by_cases c3 : b % 2 ^ 63 = 2047 * 2 ^ 52
      · rw [if_pos c3] at h; cases h
      · rw [if_neg c3] at h; cases h

/-- The size of a rational. -/
def ab (x : Rat) : Rat := if 0 ≤ x then x else -x
theorem ab_nonneg (x : Rat) : 0 ≤ ab x := by unfold ab; split <;> grind
theorem bd_ab (x : Rat) : Bd x (ab x) := by unfold ab Bd; split <;> grind
theorem ab_le {x m : Rat} (h : Bd x m) : ab x ≤ m := by unfold Bd at h; unfold ab; split <;> grind
theorem RV.abs {b : Nat} {x : Rat} (h : RV b x) : RV (b % 9223372036854775808) (ab x) := by
  obtain ⟨z, h1, h2⟩ := h
  refine ⟨_, abs_val h1, ?_⟩
  have hp := PP_pos
  rw [Rat.intCast_natCast]
  unfold ab
  by_cases hz : 0 ≤ z
  · have hx : 0 ≤ x := by
      have : ((0 : Int) : Rat) ≤ (z : Rat) := Rat.intCast_le_intCast.2 hz
      rw [h2] at this
      have c : ((0 : Int) : Rat) = 0 := rfl
      rw [c] at this
      exact Rat.le_of_mul_le_mul_right (c := PP) (by grind) hp
    rw [if_pos hx, ← h2]
    have : ((z.natAbs : Nat) : Int) = z := by omega
    have := congrArg (fun q : Int => (q : Rat)) this
    simp only [Rat.intCast_natCast] at this
    exact this
  · have hx : ¬ 0 ≤ x := by
      intro hx
      have hz' : z < 0 := by omega
      have : (z : Rat) < ((0 : Int) : Rat) := Rat.intCast_lt_intCast.2 hz'
      rw [h2] at this
      have c : ((0 : Int) : Rat) = 0 := rfl
      rw [c] at this
      have := Rat.mul_nonneg hx (show 0 ≤ PP by grind)
      grind
    rw [if_neg hx]
    have : ((z.natAbs : Nat) : Int) = -z := by omega
    have := congrArg (fun q : Int => (q : Rat)) this
    simp only [Rat.intCast_natCast, Rat.intCast_neg] at this
    rw [this, h2]; grind

/-- What the order of two words says of their numbers. -/
theorem RV.order {a b : Nat} {x y : Rat} (ha : RV a x) (hb : RV b y) : ∃ o, FloatKind.f64.format.order a b = some o ∧ (o = .lt → x < y) ∧ (o = .eq → x = y) ∧ (o = .gt → y < x) := by
  obtain ⟨X, a1, a2⟩ := ha
  obtain ⟨Y, b1, b2⟩ := hb
  have hp := PP_pos
  refine ⟨compare X Y, order_val a1 b1, fun h => ?_, fun h => ?_, fun h => ?_⟩
  · have := Rat.intCast_lt_intCast.2 (Int.compare_eq_lt.1 h)
    rw [a2, b2] at this
    exact Rat.lt_of_mul_lt_mul_right this (by grind)
  · have := Int.compare_eq_eq.1 h
    rw [this] at a2
    rw [b2] at a2
    have g1 : x ≤ y := Rat.le_of_mul_le_mul_right (c := PP) (by grind) hp
    have g2 : y ≤ x := Rat.le_of_mul_le_mul_right (c := PP) (by grind) hp
    grind
  · have := Rat.intCast_lt_intCast.2 (Int.compare_eq_gt.1 h)
    rw [a2, b2] at this
    exact Rat.lt_of_mul_lt_mul_right this (by grind)

theorem max_val : val 9218868437227405311 = some (((2 ^ 53 - 1) * 2 ^ 2045 : Nat) : Int) := by decide +kernel
theorem max_rv : ∃ z, RV 9218868437227405311 z ∧ tp < z := by
  have hp := PP_pos
  refine ⟨((((2 ^ 53 - 1) * 2 ^ 2045 : Nat) : Int) : Rat) / PP, ⟨_, max_val, (Rat.div_mul_cancel (by grind)).symm⟩, ?_⟩
  have h := tp_PP (m := tp) (by grind)
  have e : ((((2 ^ 53 - 1) * 2 ^ 2045 : Nat) : Int) : Rat) = ((((2 ^ 53 - 1) * 2 ^ 2045 : Nat) : Int) : Rat) / PP * PP := (Rat.div_mul_cancel (by grind)).symm
  have h2 : ((2 ^ 2074 : Nat) : Rat) ≤ ((((2 ^ 53 - 1) * 2 ^ 2045 : Nat) : Int) : Rat) := by
    rw [Rat.intCast_natCast]
    refine Rat.natCast_le_natCast.2 ?_
    rw [show (2 : Nat) ^ 2074 = 2 ^ 29 * 2 ^ 2045 by rw [← Nat.pow_add]]
    exact Nat.mul_le_mul_right _ (by decide)
  rw [e] at h2
  exact Rat.lt_of_mul_lt_mul_right (c := PP) (by grind) (by grind)

theorem word_lt {op : BinOp} {x y r : Nat} (h : floatBits op .f64 x y = some r) : r < 18446744073709551616 := by
  have := floatBits_wf h
  simpa [Lit.wf] using this

theorem one_rv : RV 4607182418800017408 1 := by
  have h : val 4607182418800017408 = some ((2 ^ 1074 : Nat) : Int) := by decide +kernel
  refine ⟨_, h, ?_⟩
  unfold PP
  rw [Rat.intCast_natCast]; grind

/-- THE MAGNITUDE: nearly between the greater part and 1.45 of it. -/
theorem abs_near {c : C} {z : Cq} (h : RC c z) (hz : BC z (tp / 100)) (h1 : c.1 < 18446744073709551616) (h2 : c.2 < 18446744073709551616) :
    ∃ x y m n r a, AbsOf c.1 c.2 x y m n r ∧ RV r a ∧ 0 ≤ a + dl ∧ BC z (1004 / 1000 * a + dl) ∧ (∀ e, BC z e → dl ≤ e → a ≤ 145 / 100 * e) ∧ (z.re = 0 → z.im = 0 → a = 0) := by
  have hu := uu_pos
  have hul := uu_le
  have hdl := dl_pos
  have hdt := tp_dl
  have X := h.1.abs
  have Y := h.2.abs
  have hX := ab_nonneg z.re
  have hY := ab_nonneg z.im
  have tX := ab_le hz.1
  have tY := ab_le hz.2
  have zX := bd_ab z.re
  have zY := bd_ab z.im
  have zero0 : z.re = 0 → ab z.re = 0 := fun e => by rw [e]; unfold ab; split <;> grind
  have zero1 : z.im = 0 → ab z.im = 0 := fun e => by rw [e]; unfold ab; split <;> grind
  obtain ⟨mx, hmx, hmx2⟩ := max_rv
  have inf : ∀ {w : Nat} {v : Rat}, RV w v → v ≤ tp → (FloatKind.f64.format.order w 9218868437227405311 == some .gt) = false := by
    intro w v hw hv
    obtain ⟨o, ho, _, _, hgt⟩ := RV.order hw hmx
    rw [ho]
    cases o with
    | lt => rfl
    | eq => rfl
    | gt => have := hgt rfl; grind
  have nan : ∀ {w : Nat} {v : Rat}, RV w v → (FloatKind.f64.format.order w w != some .eq) = false := by
    intro w v hw
    obtain ⟨o, ho, hlt, _, hgt⟩ := RV.order hw hw
    rw [ho]
    cases o with
    | lt => have := hlt rfl; grind
    | eq => rfl
    | gt => have := hgt rfl; grind
  have hz0 : RV 0 0 := RC.zero.1
  obtain ⟨o, ho, hlt, heq, hgt⟩ := RV.order X Y
  -- the greater and the smaller
  have big : ∃ M N, RV (fMax (c.1 % 9223372036854775808) (c.2 % 9223372036854775808)) M ∧ RV (fMin (c.1 % 9223372036854775808) (c.2 % 9223372036854775808)) N ∧ 0 ≤ N ∧ N ≤ M ∧ ab z.re ≤ M ∧ ab z.im ≤ M ∧ (M = ab z.re ∨ M = ab z.im) := by
    unfold fMax fMin
    rw [ho]
    cases o with
    | lt => exact ⟨ab z.im, ab z.re, Y, X, hX, by have := hlt rfl; grind, by have := hlt rfl; grind, by grind, Or.inr rfl⟩
    | gt => exact ⟨ab z.re, ab z.im, X, Y, hY, by have := hgt rfl; grind, by grind, by have := hgt rfl; grind, Or.inl rfl⟩
    | eq =>
      have e := heq rfl
      simp only
      by_cases hneg : (FloatKind.f64.decode (c.1 % 9223372036854775808)).neg = true
      · rw [if_pos hneg, if_pos hneg]
        exact ⟨ab z.im, ab z.re, Y, X, hX, by grind, by grind, by grind, Or.inr rfl⟩
      · rw [if_neg hneg, if_neg hneg]
        exact ⟨ab z.re, ab z.im, X, Y, hY, by grind, by grind, by grind, Or.inl rfl⟩
  obtain ⟨M, N, hM, hN, hN0, hNM, hxM, hyM, hMor⟩ := big
  have hMt : M ≤ tp / 100 := by rcases hMor with e | e <;> rw [e] <;> assumption
  have hBM : BC z M := ⟨zX.mono hxM, zY.mono hyM⟩
  have hMe : ∀ e, BC z e → M ≤ e := by
    intro e he
    rcases hMor with q | q <;> rw [q]
    · exact ab_le he.1
    · exact ab_le he.2
  obtain ⟨o2, ho2, hlt2, heq2, hgt2⟩ := RV.order hM hz0
  by_cases hM0 : M = 0
  · have hz2 : (FloatKind.f64.format.order (fMax (c.1 % 9223372036854775808) (c.2 % 9223372036854775808)) 0 == some .eq) = true := by
      rw [ho2]
      cases o2 with
      | lt => have := hlt2 rfl; grind
      | eq => rfl
      | gt => have := hgt2 rfl; grind
    refine ⟨_, _, _, _, 0, 0, ⟨h1, h2, rfl, rfl, inf X (by grind), inf Y (by grind), nan X, nan Y, ⟨o, ho⟩, rfl, rfl, Or.inl ⟨hz2, rfl⟩⟩, hz0, by grind, ?_, ?_, fun _ _ => rfl⟩
    · exact hBM.mono (by grind)
    · intro e he hd; grind
  · have hMp : 0 < M := by grind
    have hz2 : (FloatKind.f64.format.order (fMax (c.1 % 9223372036854775808) (c.2 % 9223372036854775808)) 0 == some .eq) = false := by
      rw [ho2]
      cases o2 with
      | lt => rfl
      | eq => have := heq2 rfl; grind
      | gt => rfl
    -- the quotient
    have hq : N / M * M = N := Rat.div_mul_cancel (by grind)
    have hqb : 0 ≤ N / M ∧ N / M ≤ 1 := by
      refine ⟨Rat.le_of_mul_le_mul_right (c := M) (by grind) hMp, Rat.le_of_mul_le_mul_right (c := M) (by grind) hMp⟩
    generalize N / M = q at hq hqb
    obtain ⟨t, tv, t1, t2, t3⟩ := RV.div hN hM (by grind) (q := q) (m := 1) (by unfold Bd; grind) hq (by unfold Bd; grind) (by grind) (by grind)
    have tvb : -1 / 1000000 ≤ tv ∧ tv ≤ 1000001 / 1000000 := by unfold Bd at t3; grind
    have tsq : Bd (tv * tv) (10001 / 10000) ∧ 0 ≤ tv * tv := by
      refine ⟨(Bd.mul (a := 1000001 / 1000000) (b := 1000001 / 1000000) (by unfold Bd; grind) (by unfold Bd; grind)).mono (by grind), ?_⟩
      rcases (by grind : 0 ≤ tv ∨ 0 ≤ -tv) with g | g
      · exact Rat.mul_nonneg g g
      · have := Rat.mul_nonneg g g; grind
    obtain ⟨tt, ttv, tt1, tt2, tt3⟩ := RV.mul t2 t2 (m := 10001 / 10000) tsq.1 (by grind) (by unfold tp; grind)
    have ttb : -1 / 1000000 ≤ ttv ∧ ttv ≤ 10002 / 10000 := by unfold Bd at tt3 tsq; grind
    obtain ⟨s, sv, s1, s2, s3⟩ := RV.add one_rv tt2 (m := 3) (by unfold Bd; grind) (by grind) (by unfold tp; grind)
    have sb : 999 / 1000 ≤ sv ∧ sv ≤ 202 / 100 := by unfold Bd at s3; grind
    obtain ⟨g, gv, g1, g2, g3, g4⟩ : ∃ r z, D.sqrt s = some r ∧ RV r z ∧ 997 / 1000 ≤ z ∧ z ≤ 143 / 100 := by
      by_cases hs1 : 1 ≤ sv
      · obtain ⟨r, z, a, b, c, d⟩ := s2.sqrt hs1 sb.2
        exact ⟨r, z, a, b, by grind, d⟩
      · exact s2.sqrt_low sb.1 (by grind)
    have mgb : 997 / 1000 * M ≤ M * gv ∧ M * gv ≤ 143 / 100 * M := by
      have a1 := mul_le_l g3 (show 0 ≤ M by grind)
      have a2 := mul_le_l g4 (show 0 ≤ M by grind)
      grind
    obtain ⟨r, rv, r1, r2, r3⟩ := RV.mul hM g2 (m := 143 / 100 * M + dl) (by unfold Bd; grind) (by grind) (by unfold tp at *; grind)
    have um : uu * (143 / 100 * M + dl) ≤ 1 / 1000000000000 * (143 / 100 * M + dl) := by have := mul_le_l hul (show 0 ≤ 143 / 100 * M + dl by grind); grind
    refine ⟨_, _, _, _, r, rv, ⟨h1, h2, rfl, rfl, inf X (by grind), inf Y (by grind), nan X, nan Y, ⟨o, ho⟩, rfl, rfl, Or.inr ⟨hz2, t, tt, s, g, t1, tt1, s1, g1, r1⟩⟩, r2, ?_, ?_, ?_, ?_⟩
    · unfold Bd at r3; grind
    · refine hBM.mono ?_
      unfold Bd at r3; grind
    · intro e he hd
      have := hMe e he
      unfold Bd at r3; grind
    · intro e1 e2
      have := zero0 e1
      have := zero1 e2
      grind

end Go.Proofs.Ytdeigbbilcjgjaa
