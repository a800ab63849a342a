/-
  THE PLAIN LAW of WholeTransforms, put together.
-/
import Derived.Test.YtdeigbbilcjgjaaLa
namespace Go.Proofs.Ytdeigbbilcjgjaa
set_option exponentiation.threshold 5000
set_option linter.unusedVariables false
set_option linter.unusedSimpArgs false

theorem rv_zero {b : Nat} (h : RV b 0) : val b = some 0 := by
  obtain ⟨z, h1, h2⟩ := h
  have : (z : Rat) = ((0 : Int) : Rat) := by
    have c : ((0 : Int) : Rat) = 0 := rfl
    rw [h2, c]; grind
  rw [h1, Rat.intCast_inj.1 this]
theorem zero_rv {b : Nat} (h : val b = some 0) : RV b 0 := by
  have c : ((0 : Int) : Rat) = 0 := rfl
  exact ⟨0, h, by rw [c]; grind⟩
theorem Zc.rc {c : C} (h : Zc c) : RC c 0 := ⟨zero_rv h.1, zero_rv h.2⟩

theorem cSub_lt {a b d : C} (h : cSub a b = some d) : d.1 < 18446744073709551616 ∧ d.2 < 18446744073709551616 := by
  unfold cSub cSumBits at h
  obtain ⟨x, hx, h⟩ := Option.bind_eq_some_iff.1 h
  obtain ⟨y, hy, h⟩ := Option.bind_eq_some_iff.1 h
  cases h
  exact ⟨word_lt hx, word_lt hy⟩

/-- 2^-40. -/
theorem lim_rv : RV 4427038433705197568 (1 / 1099511627776) := by
  have h : val 4427038433705197568 = some ((2 ^ 1034 : Nat) : Int) := by decide +kernel
  refine ⟨_, h, ?_⟩
  rw [Rat.intCast_natCast]
  have e : PP = ((2 ^ 1034 : Nat) : Rat) * 1099511627776 := by
    have : (1099511627776 : Rat) = ((2 ^ 40 : Nat) : Rat) := rfl
    rw [this]; unfold PP
    rw [← Rat.natCast_mul, ← Nat.pow_add]
  rw [e]; grind

theorem not_gt {a b : Nat} {x y : Rat} (ha : RV a x) (hb : RV b y) (h : x ≤ y) : (FloatKind.f64.format.order a b == some .gt) = false ∧ (FloatKind.f64.format.order a b == some .lt || FloatKind.f64.format.order a b == some .eq) = true := by
  obtain ⟨o, ho, _, _, hgt⟩ := RV.order ha hb
  rw [ho]
  cases o with
  | lt => exact ⟨rfl, rfl⟩
  | eq => exact ⟨rfl, rfl⟩
  | gt => have := hgt rfl; grind

/-- The numbers of the words. -/
def wG (vs : List (Int × Int)) (i : Nat) : Cq := ⟨((vs.getD i (0, 0)).1 : Rat), ((vs.getD i (0, 0)).2 : Rat)⟩
theorem wP_get (L : Nat) (vs : List (Int × Int)) (hl : vs.length = L) (i : Nat) (hi : i < L) : (wholeP L vs).getD i (0, 0) = (floatOfInt .f64 (vs.getD i (0, 0)).1, floatOfInt .f64 (vs.getD i (0, 0)).2) := by
  unfold wholeP
  have e : ((List.range L).map (wholeAt vs)).getD i (0, 0) = wholeAt vs i := by simp [hi]
  rw [e]; unfold wholeAt; rw [if_pos (by omega)]
theorem wP_lt (L : Nat) (vs : List (Int × Int)) (hl : vs.length = L) (i : Nat) (hi : i < L) : ((wholeP L vs).getD i (0, 0)).1 < 18446744073709551616 ∧ ((wholeP L vs).getD i (0, 0)).2 < 18446744073709551616 := by
  rw [wP_get L vs hl i hi]
  have f : ∀ n, floatOfInt .f64 n < 18446744073709551616 := fun n => by
    have := floatOfInt_wf .f64 n
    simpa [Lit.wf] using this
  exact ⟨f _, f _⟩

/-- The total's steps. -/
theorem total_steps {g : List C} {G : Nat → Cq} {s : Nat → Rat} {S : Rat} (L : Nat) (hL : L ≤ 576) (hS : rsum L s = S) (hS1 : 1 ≤ S) (hST : S ≤ 1099511627776)
    (hg : ∀ i, i < L → RC (g.getD i (0, 0)) (G i) ∧ BC (G i) (s i) ∧ dl ≤ s i ∧ (g.getD i (0, 0)).1 < 18446744073709551616 ∧ (g.getD i (0, 0)).2 < 18446744073709551616) :
    ∃ (tP : Nat → Nat) (tv : Nat → Rat) (a : Nat → Rat), tP 0 = 0 ∧ (∀ i, i < L → ∃ r, AbsR (g.getD i (0, 0)) r ∧ fAdd (tP i) r = some (tP (i + 1))) ∧ (∀ i, i < L → BC (G i) (1004 / 1000 * a i + dl) ∧ ((G i).re = 0 → (G i).im = 0 → a i = 0)) ∧
      ∀ k, k ≤ L → RV (tP k) (tv k) ∧ Bd (tv k - rsum k a) ((k : Rat) * (2 * (uu * S))) ∧ rsum k a ≤ 145 / 100 * S := by
  have hu := uu_pos
  have hul := uu_le
  have hdl := dl_pos
  have hs0 : ∀ k, k < L → 0 ≤ s k := fun k hk => by have := (hg k hk).2.2.1; grind
  have hsS : ∀ k, k < L → s k ≤ S := fun k hk => by rw [← hS]; exact rsum_ge hs0 k hk
  have hS0 : 0 ≤ S := by rw [← hS]; exact rsum_nonneg hs0
  have huS : 0 ≤ uu * S := Rat.mul_nonneg (by grind) hS0
  have huS2 : uu * S ≤ 1 / 1000000000000 * S := by have := mul_le_l hul hS0; grind
  have f1 : ∀ i, ∃ r a, i < L → AbsR (g.getD i (0, 0)) r ∧ RV r a ∧ 0 ≤ a + dl ∧ BC (G i) (1004 / 1000 * a + dl) ∧ a ≤ 145 / 100 * s i ∧ ((G i).re = 0 → (G i).im = 0 → a = 0) := by
    intro i
    by_cases hi : i < L
    · obtain ⟨b1, b2, b3, b4, b5⟩ := hg i hi
      obtain ⟨x, y, m, n, r, a, c1, c2, c3, c4, c5, c6⟩ := abs_near b1 (b2.mono (by have := hsS i hi; unfold tp; grind)) b4 b5
      exact ⟨r, a, fun _ => ⟨⟨x, y, m, n, c1⟩, c2, c3, c4, c5 _ b2 b3, c6⟩⟩
    · exact ⟨0, 0, fun h => absurd h hi⟩
  obtain ⟨rr, f2⟩ := Classical.skolem.1 f1
  obtain ⟨a, f3⟩ := Classical.skolem.1 f2
  have ra : ∀ k, k ≤ L → rsum k a ≤ 145 / 100 * S ∧ -(dl * k) ≤ rsum k a := by
    intro k hk
    constructor
    · have h1 : rsum k a ≤ rsum k (fun i => 145 / 100 * s i) := rsum_le fun i hi => (f3 i (by omega)).2.2.2.2.1
      rw [rsum_mul] at h1
      have h2 := rsum_take (n := L) (k := k) hs0 hk
      rw [hS] at h2
      grind
    · have h1 : rsum k (fun _ => -dl) ≤ rsum k a := rsum_le fun i hi => by have := (f3 i (by omega)).2.2.1; grind
      rw [rsum_const] at h1; grind
  have key : ∀ k, k ≤ L → ∃ tP : Nat → Nat, ∃ tv : Nat → Rat, tP 0 = 0 ∧ (∀ i, i < k → fAdd (tP i) (rr i) = some (tP (i + 1))) ∧ ∀ j, j ≤ k → RV (tP j) (tv j) ∧ Bd (tv j - rsum j a) ((j : Rat) * (2 * (uu * S))) := by
    intro k
    induction k with
    | zero =>
      intro _
      refine ⟨fun _ => 0, fun _ => 0, rfl, fun i hi => by omega, fun j hj => ?_⟩
      obtain rfl : j = 0 := (by omega)
      refine ⟨RC.zero.1, ?_⟩
      have h0 : ((0 : Nat) : Rat) = 0 := rfl
      rw [h0]
      unfold Bd
      simp only [rsum]
      constructor <;> grind
    | succ k ih =>
      intro hk
      obtain ⟨tP, tv, t1, t2, t3⟩ := ih (by omega)
      obtain ⟨_, c2, c3, c4, c5, _⟩ := f3 k (by omega)
      obtain ⟨d1, d2⟩ := t3 k (Nat.le_refl _)
      have hkr : (k : Rat) ≤ 576 := by
        have := Rat.natCast_le_natCast.2 (show k ≤ 576 by omega)
        exact this
      have hk0 : (0 : Rat) ≤ (k : Rat) := by
        have := Rat.natCast_le_natCast.2 (show 0 ≤ k by omega)
        exact this
      have hE : (k : Rat) * (2 * (uu * S)) ≤ 576 * (2 * (uu * S)) := by have := mul_le_l hkr (show 0 ≤ 2 * (uu * S) by grind); grind
      obtain ⟨r1, r2⟩ := ra (k + 1) hk
      have ek : ((k + 1 : Nat) : Rat) = (k : Rat) + 1 := by rw [Rat.natCast_add]; rfl
      have hdk : dl * ((k + 1 : Nat) : Rat) ≤ 577 * dl := by rw [ek]; have := mul_le_l hkr (show 0 ≤ dl by grind); grind
      have hsk : dl ≤ S := by have h1 := (hg k (by omega)).2.2.1; have h2 := hsS k (by omega); grind
      have hd2 : 1000000 * dl ≤ 1 := by unfold dl; grind
      have hb : Bd (tv k + a k) (150 / 100 * S) := by
        have e : rsum (k + 1) a = rsum k a + a k := rfl
        rw [e] at r1 r2
        unfold Bd at d2 ⊢
        constructor <;> grind
      obtain ⟨r, z, g1, g2, g3⟩ := d1.add c2 hb (by grind) (by unfold tp; grind)
      refine ⟨fun j => if j ≤ k then tP j else r, fun j => if j ≤ k then tv j else z, by simp [t1], fun i hi => ?_, fun j hj => ?_⟩
      · by_cases hik : i = k
        · subst hik
          simp only [Nat.le_refl, if_true, show ¬ i + 1 ≤ i by omega, if_false]; exact g1
        · have h1 : i ≤ k := by omega
          have h2 : i + 1 ≤ k := by omega
          simp only [h1, h2, if_true]; exact t2 i (by omega)
      · by_cases hjk : j ≤ k
        · simp only [hjk, if_true]; exact t3 j hjk
        · obtain rfl : j = k + 1 := (by omega)
          simp only [hjk, if_false]
          refine ⟨g2, ?_⟩
          have e : rsum (k + 1) a = rsum k a + a k := rfl
          rw [e, ek]
          have e2 : uu * (150 / 100 * S) = 3 / 2 * (uu * S) := by grind
          rw [e2] at g3
          unfold Bd at d2 g3 ⊢
          generalize uu * S = q at *
          constructor <;> grind
  obtain ⟨tP, tv, t1, t2, t3⟩ := key L (Nat.le_refl _)
  exact ⟨tP, tv, a, t1, fun i hi => ⟨rr i, (f3 i hi).1, t2 i hi⟩, fun i hi => ⟨(f3 i hi).2.2.2.1, (f3 i hi).2.2.2.2.2⟩, fun k hk => ⟨(t3 k hk).1, (t3 k hk).2, (ra k hk).1⟩⟩

end Go.Proofs.Ytdeigbbilcjgjaa
