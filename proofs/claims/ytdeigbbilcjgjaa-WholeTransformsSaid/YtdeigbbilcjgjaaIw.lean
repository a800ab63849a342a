/-
  There and back a grid is nearly itself; each place of the transform lies close to the sums themselves.
-/
import Derived.Test.YtdeigbbilcjgjaaIv
import Derived.Test.YtdeigbbilcjgjaaWj
namespace Go.Proofs.Ytdeigbbilcjgjaa
set_option exponentiation.threshold 5000
set_option linter.unusedVariables false
set_option linter.unusedSimpArgs false

def isum (n : Nat) (f : Nat → Int) : Int :=
  match n with
  | 0 => 0
  | n + 1 => isum n f + f n
theorem isum_cast (n : Nat) (f : Nat → Int) : ((isum n f : Int) : Rat) = rsum n fun i => (f i : Rat) := by
  induction n with
  | zero => rfl
  | succ n ih => simp only [isum, rsum, Rat.intCast_add, ih]

/-- Back and there. -/
def bt (n i z : Nat) : Int × Int :=
  let d := 24 / n
  (isum n fun c => ct (i * c * d) * ct (c * z * d) + ct (i * c * d + 18) * ct (c * z * d + 18), isum n fun c => ct (i * c * d) * ct (c * z * d + 18) - ct (i * c * d + 18) * ct (c * z * d))
def btOk (n : Nat) : Bool := (List.range n).all fun i => (List.range n).all fun z =>
  decide (((bt n i z).1 - (if i = z then (n : Int) * 324518553658426726783156020576256 else 0)).natAbs ≤ n * 72057594037927936) && decide ((bt n i z).2.natAbs ≤ n * 72057594037927936)
theorem bt_all : btOk 1 = true ∧ btOk 2 = true ∧ btOk 3 = true ∧ btOk 4 = true ∧ btOk 6 = true ∧ btOk 8 = true ∧ btOk 12 = true := by decide +kernel

/-- The unit matrix. -/
def un (i z : Nat) : Cq := if i = z then 1 else 0

theorem bd_54n {n : Nat} (hn : 0 < n) {z : Int} {x : Rat} (h : z.natAbs ≤ n * 72057594037927936) (hz : (z : Rat) = x * ((n : Rat) * (q54 * q54))) : Bd x (2 * uu) := by
  have hn1 := nat_ge1 hn
  have h1 : (z : Rat) ≤ (((n * 72057594037927936 : Nat) : Int) : Rat) := Rat.intCast_le_intCast.2 (by omega)
  have h2 : ((-z : Int) : Rat) ≤ (((n * 72057594037927936 : Nat) : Int) : Rat) := Rat.intCast_le_intCast.2 (by omega)
  rw [Rat.intCast_neg] at h2
  rw [Rat.intCast_natCast, Rat.natCast_mul] at h1 h2
  have c : ((72057594037927936 : Nat) : Rat) = 72057594037927936 := rfl
  rw [c, hz] at h1 h2
  have e : q54 * q54 = 324518553658426726783156020576256 := by unfold q54; grind
  rw [e] at h1 h2
  have k1 : x * 324518553658426726783156020576256 ≤ 72057594037927936 := Rat.le_of_mul_le_mul_right (c := (n : Rat)) (by grind) (by grind)
  have k2 : -(x * 324518553658426726783156020576256) ≤ 72057594037927936 := Rat.le_of_mul_le_mul_right (c := (n : Rat)) (by grind) (by grind)
  unfold Bd uu
  grind

theorem comp_near (n : Nat) (h7 : N7 n) (i z : Nat) (hi : i < n) (hz : z < n) : BC (mcomp n (wu n) (wt false n) i z - un i z) (2 * uu) := by
  have hok : btOk n = true := by
    obtain ⟨h1, h2, h3, h4, h5, h6, h8⟩ := bt_all
    rcases h7 with rfl | rfl | rfl | rfl | rfl | rfl | rfl <;> assumption
  have hn := h7.pos
  have hn1 := nat_ge1 hn
  have hne : (n : Rat) ≠ 0 := by grind
  have hq : q54 ≠ 0 := by unfold q54; grind
  have h := List.all_eq_true.1 (List.all_eq_true.1 hok i (by simpa using hi)) z (by simpa using hz)
  rw [Bool.and_eq_true, decide_eq_true_eq, decide_eq_true_eq] at h
  obtain ⟨h1, h2⟩ := h
  have f : ∀ z : Int, (z : Rat) = (z : Rat) / q54 * q54 := fun z => (Rat.div_mul_cancel hq).symm
  refine ⟨bd_54n hn h1 ?_, bd_54n hn h2 ?_⟩
  · rw [Cq.sub_re]
    unfold mcomp
    rw [qsum_re]
    have e1 : (((bt n i z).1 : Int) : Rat) = (n : Rat) * (q54 * q54) * rsum n fun c => (wu n i c * wt false n c z).re := by
      show ((isum n _ : Int) : Rat) = _
      rw [isum_cast, ← rsum_mul]
      refine rsum_congr fun c _ => ?_
      rw [Rat.intCast_add, Rat.intCast_mul, Rat.intCast_mul]
      show _ = (n : Rat) * (q54 * q54) * (((ct (i * c * (24 / n)) : Rat) / q54) / n * ((ct (c * z * (24 / n)) : Rat) / q54) - (-((ct (i * c * (24 / n) + 18) : Rat) / q54)) / n * ((ct (c * z * (24 / n) + 18) : Rat) / q54))
      have f1 := f (ct (i * c * (24 / n)))
      have f2 := f (ct (c * z * (24 / n)))
      have f3 := f (ct (i * c * (24 / n) + 18))
      have f4 := f (ct (c * z * (24 / n) + 18))
      generalize (ct (i * c * (24 / n)) : Rat) / q54 = x at *
      generalize (ct (c * z * (24 / n)) : Rat) / q54 = y at *
      generalize (ct (i * c * (24 / n) + 18) : Rat) / q54 = u at *
      generalize (ct (c * z * (24 / n) + 18) : Rat) / q54 = v at *
      rw [f1, f2, f3, f4]
      grind
    rw [Rat.intCast_sub, e1]
    have e2 : (((if i = z then (n : Int) * 324518553658426726783156020576256 else 0) : Int) : Rat) = (un i z).re * ((n : Rat) * (q54 * q54)) := by
      unfold un
      by_cases hiz : i = z
      · rw [if_pos hiz, if_pos hiz, Cq.one_re, Rat.intCast_mul, Rat.intCast_natCast]
        have e : q54 * q54 = 324518553658426726783156020576256 := by unfold q54; grind
        have c : ((324518553658426726783156020576256 : Int) : Rat) = 324518553658426726783156020576256 := rfl
        rw [e, c]; grind
      · rw [if_neg hiz, if_neg hiz, Cq.zero_re]
        have c : ((0 : Int) : Rat) = 0 := rfl
        rw [c]; grind
    rw [e2]; grind
  · rw [Cq.sub_im]
    unfold mcomp
    rw [qsum_im]
    have e1 : (((bt n i z).2 : Int) : Rat) = (n : Rat) * (q54 * q54) * rsum n fun c => (wu n i c * wt false n c z).im := by
      show ((isum n _ : Int) : Rat) = _
      rw [isum_cast, ← rsum_mul]
      refine rsum_congr fun c _ => ?_
      rw [Rat.intCast_sub, Rat.intCast_mul, Rat.intCast_mul]
      show _ = (n : Rat) * (q54 * q54) * (((ct (i * c * (24 / n)) : Rat) / q54) / n * ((ct (c * z * (24 / n) + 18) : Rat) / q54) + (-((ct (i * c * (24 / n) + 18) : Rat) / q54)) / n * ((ct (c * z * (24 / n)) : Rat) / q54))
      have f1 := f (ct (i * c * (24 / n)))
      have f2 := f (ct (c * z * (24 / n)))
      have f3 := f (ct (i * c * (24 / n) + 18))
      have f4 := f (ct (c * z * (24 / n) + 18))
      generalize (ct (i * c * (24 / n)) : Rat) / q54 = x at *
      generalize (ct (c * z * (24 / n)) : Rat) / q54 = y at *
      generalize (ct (i * c * (24 / n) + 18) : Rat) / q54 = u at *
      generalize (ct (c * z * (24 / n) + 18) : Rat) / q54 = v at *
      rw [f1, f2, f3, f4]
      grind
    rw [e1]
    have e2 : (un i z).im = 0 := by unfold un; split <;> rfl
    rw [e2]; grind

theorem qsum_pick (n i : Nat) (hi : i < n) (f : Nat → Cq) : qsum n (fun z => un i z * f z) = f i := by
  have h1 : ∀ a : Cq, (1 : Cq) * a = a := fun a => by (refine Cq.ext' ?_ ?_ <;> simp only [Cq.mul_re, Cq.mul_im, Cq.one_re, Cq.one_im] <;> grind)
  have h0 : ∀ a : Cq, (0 : Cq) * a = 0 := fun a => by (refine Cq.ext' ?_ ?_ <;> simp only [Cq.mul_re, Cq.mul_im, Cq.zero_re, Cq.zero_im] <;> grind)
  have a0 : ∀ a : Cq, a + 0 = a := fun a => by (refine Cq.ext' ?_ ?_ <;> simp only [Cq.add_re, Cq.add_im, Cq.zero_re, Cq.zero_im] <;> grind)
  have a1 : ∀ a : Cq, 0 + a = a := fun a => by (refine Cq.ext' ?_ ?_ <;> simp only [Cq.add_re, Cq.add_im, Cq.zero_re, Cq.zero_im] <;> grind)
  unfold un
  induction n with
  | zero => omega
  | succ n ih =>
    simp only [qsum]
    by_cases h : i = n
    · subst h
      have e : qsum i (fun z => (if i = z then (1 : Cq) else 0) * f z) = qsum i (fun _ => (0 : Cq)) := qsum_congr fun z hz => by rw [if_neg (by omega), h0]
      rw [e, qsum_zero, if_pos rfl, h1, a1]
    · rw [ih (by omega), if_neg h, h0, a0]

/-- Nearly the unit: nearly the same. -/
theorem unit_near (n : Nat) (h7 : N7 n) (f : Nat → Cq) (b : Nat → Rat) (hf : ∀ k, k < n → BC (f k) (b k)) (i : Nat) (hi : i < n) :
    BC ((qsum n fun z => mcomp n (wu n) (wt false n) i z * f z) - f i) (4 * uu * rsum n b) := by
  have e : (qsum n fun z => mcomp n (wu n) (wt false n) i z * f z) - f i = qsum n fun z => (mcomp n (wu n) (wt false n) i z - un i z) * f z := by
    rw [← qsum_pick n i hi f, ← qsum_sub]
    exact qsum_congr fun z _ => by (refine Cq.ext' ?_ ?_ <;> simp only [Cq.sub_re, Cq.sub_im, Cq.mul_re, Cq.mul_im] <;> grind)
  rw [e, ← rsum_mul]
  exact BC.sum fun z hz => (BC.mul (WB.of (comp_near n h7 i z hi hz)) (hf z hz)).mono (by have := (hf z hz).nonneg; grind)

/-- There and back, without rounding. -/
theorem back_near {n0 n1 n2 : Nat} (h0 : N7 n0) (h1 : N7 n1) (h2 : N7 n2) (F : Nat → Nat → Nat → Cq) (b : Nat → Nat → Nat → Rat) (hF : ∀ x y z, x < n0 → y < n1 → z < n2 → BC (F x y z) (b x y z)) (x y z : Nat) (hx : x < n0) (hy : y < n1) (hz : z < n2) :
    BC (mr0 n0 (wu n0) (mr1 n1 (wu n1) (mr2 n2 (wu n2) (mr0 n0 (wt false n0) (mr1 n1 (wt false n1) (mr2 n2 (wt false n2) F))))) x y z - F x y z) (24 * uu * rsum n0 fun x => rsum n1 fun y => rsum n2 fun z => b x y z) := by
  rw [mr_back]
  have hu := uu_pos
  have hul := uu_le
  have nn2 : ∀ x y, x < n0 → y < n1 → 0 ≤ rsum n2 fun z => b x y z := fun x y hx hy => rsum_nonneg fun z hz => (hF x y z hx hy hz).nonneg
  have nn1 : ∀ x, x < n0 → 0 ≤ rsum n1 fun y => rsum n2 fun z => b x y z := fun x hx => rsum_nonneg fun y hy => nn2 x y hx hy
  have A2 : ∀ x y z, x < n0 → y < n1 → z < n2 → BC (mr2 n2 (mcomp n2 (wu n2) (wt false n2)) F x y z - F x y z) (4 * uu * rsum n2 fun z => b x y z) := fun x y z hx hy hz => unit_near n2 h2 (F x y) (b x y) (fun k hk => hF x y k hx hy hk) z hz
  have B2 : ∀ x y z, x < n0 → y < n1 → z < n2 → BC (mr2 n2 (mcomp n2 (wu n2) (wt false n2)) F x y z) (2 * rsum n2 fun z => b x y z) := fun x y z hx hy hz => by
    refine ((A2 x y z hx hy hz).near (hF x y z hx hy hz)).mono ?_
    have h1 := rsum_ge (n := n2) (f := fun z => b x y z) (fun k hk => (hF x y k hx hy hk).nonneg) z hz
    have h2 := nn2 x y hx hy
    have h3 := mul_le_l hul h2
    grind
  generalize mr2 n2 (mcomp n2 (wu n2) (wt false n2)) F = F2 at A2 B2 ⊢
  have A1 : ∀ x y z, x < n0 → y < n1 → z < n2 → BC (mr1 n1 (mcomp n1 (wu n1) (wt false n1)) F2 x y z - F2 x y z) (8 * uu * rsum n1 fun y => rsum n2 fun z => b x y z) := fun x y z hx hy hz => by
    have := unit_near n1 h1 (fun y => F2 x y z) (fun y => 2 * rsum n2 fun z => b x y z) (fun k hk => B2 x k z hx hk hz) y hy
    rw [rsum_mul] at this
    exact this.mono (by grind)
  have B1' : ∀ x y z, x < n0 → y < n1 → z < n2 → BC (mr1 n1 (mcomp n1 (wu n1) (wt false n1)) F2 x y z) (3 * rsum n1 fun y => rsum n2 fun z => b x y z) := fun x y z hx hy hz => by
    refine ((A1 x y z hx hy hz).near (B2 x y z hx hy hz)).mono ?_
    have h1 := rsum_ge (n := n1) (f := fun y => rsum n2 fun z => b x y z) (fun k hk => nn2 x k hx hk) y hy
    have h2 := nn1 x hx
    have h3 := mul_le_l hul h2
    grind
  generalize mr1 n1 (mcomp n1 (wu n1) (wt false n1)) F2 = F1 at A1 B1' ⊢
  have A0 : BC (mr0 n0 (mcomp n0 (wu n0) (wt false n0)) F1 x y z - F1 x y z) (12 * uu * rsum n0 fun x => rsum n1 fun y => rsum n2 fun z => b x y z) := by
    have := unit_near n0 h0 (fun x => F1 x y z) (fun x => 3 * rsum n1 fun y => rsum n2 fun z => b x y z) (fun k hk => B1' k y z hk hy hz) x hx
    rw [rsum_mul] at this
    exact this.mono (by grind)
  refine ((A0.tri (A1 x y z hx hy hz)).tri (A2 x y z hx hy hz)).mono ?_
  have g1 := rsum_ge (n := n1) (f := fun y => rsum n2 fun z => b x y z) (fun k hk => nn2 x k hx hk) y hy
  have g0 := rsum_ge (n := n0) (f := fun x => rsum n1 fun y => rsum n2 fun z => b x y z) (fun k hk => nn1 k hk) x hx
  have k1 := mul_le_l g1 (show 0 ≤ 4 * uu by grind)
  have k0 := mul_le_l g0 (show 0 ≤ 12 * uu by grind)
  have nx := nn2 x y hx hy
  have px : 0 ≤ uu * (rsum n2 fun z => b x y z) := Rat.mul_nonneg (by grind) nx
  grind

end Go.Proofs.Ytdeigbbilcjgjaa
