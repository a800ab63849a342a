/-
  THE PLAIN LAW of WholeTransforms, for every grid.
-/
import Derived.Test.YtdeigbbilcjgjaaLc
namespace Go.Proofs.Ytdeigbbilcjgjaa
set_option exponentiation.threshold 5000
set_option linter.unusedVariables false
set_option linter.unusedSimpArgs false

theorem abs_zero {c : C} (h : Zc c) (h1 : c.1 < 18446744073709551616) (h2 : c.2 < 18446744073709551616) : ∃ r, AbsR c r ∧ val r = some 0 := by
  have hdl := dl_pos
  have hz : BC (0 : Cq) (tp / 100) := BC.zero (by unfold tp; grind)
  obtain ⟨x, y, m, n, r, a, c1, c2, c3, c4, c5, c6⟩ := abs_near h.rc hz h1 h2
  have := c6 rfl rfl
  subst this
  exact ⟨r, ⟨x, y, m, n, c1⟩, rv_zero c2⟩

/-- A grid of noughts. -/
theorem whole_law0 {n0 n1 n2 : Nat} (a0 : N7 n0) (a1 : N7 n1) (a2 : N7 n2) (vs : List (Int × Int)) (hl : vs.length = n0 * n1 * n2)
    (hne : ∀ i, i < n0 * n1 * n2 → (vs.getD i (0, 0)).1 = 0 ∧ (vs.getD i (0, 0)).2 = 0) (h0 h1 h2 : Nat) :
    ∃ va vb tP lim, WLaw n0 n1 n2 (n0 * n1 * n2) h0 h1 h2 (wholeP (n0 * n1 * n2) vs) va vb tP lim := by
  have p0 := a0.pos
  have p1 := a1.pos
  have p2 := a2.pos
  have hsame := same_law (n0 := n0) (n1 := n1) (n2 := n2) vs (by
    intro i hi
    rw [hl] at hi
    obtain ⟨k1, k2⟩ := hne i hi
    rw [k1, k2]; decide)
  obtain ⟨L, hL⟩ : ∃ L, L = n0 * n1 * n2 := ⟨_, rfl⟩
  obtain ⟨g, hg⟩ : ∃ g, g = wholeP L vs := ⟨_, rfl⟩
  rw [← hL] at hl hne hsame ⊢
  rw [← hg] at hsame ⊢
  have hgl : g.length = n0 * n1 * n2 := by rw [hg, ← hL]; exact wholeP_length _ _
  have hz : ∀ i, i < L → Zc (g.getD i (0, 0)) := by
    intro i hi
    rw [hg, wP_get L vs hl i hi]
    obtain ⟨k1, k2⟩ := hne i hi
    rw [k1, k2]
    have := ofInt_val 0 (by decide)
    rw [Int.zero_mul] at this
    exact ⟨this, this⟩
  have hlt : ∀ i, i < L → (g.getD i (0, 0)).1 < 18446744073709551616 ∧ (g.getD i (0, 0)).2 < 18446744073709551616 := fun i hi => by rw [hg]; exact wP_lt L vs hl i hi
  have hpl : ∀ x y z, x < n0 → y < n1 → z < n2 → (x * n1 + y) * n2 + z < L := fun x y z hx hy hz => by rw [hL]; exact place3_lt _ _ _ _ _ _ hx hy hz
  obtain ⟨va, va1, va2, va3⟩ := box_z p0 p1 p2 (zr_line false n2 a2) (zr_line false n1 a1) (zr_line false n0 a0) g hgl (fun x y z hx hy hz' => hz _ (hpl x y z hx hy hz'))
  obtain ⟨vb, vb1, vb2, vb3⟩ := box_z p0 p1 p2 (zr_undone n2 a2) (zr_undone n1 a1) (zr_undone n0 a0) va va2 va3
  have f1 : ∀ i, ∃ r, i < L → AbsR (g.getD i (0, 0)) r ∧ val r = some 0 := by
    intro i
    by_cases hi : i < L
    · obtain ⟨r, hr⟩ := abs_zero (hz i hi) (hlt i hi).1 (hlt i hi).2
      exact ⟨r, fun _ => hr⟩
    · exact ⟨0, fun h => absurd h hi⟩
  obtain ⟨rr, f2⟩ := Classical.skolem.1 f1
  have key : ∀ k, k ≤ L → ∃ tP : Nat → Nat, tP 0 = 0 ∧ (∀ i, i < k → fAdd (tP i) (rr i) = some (tP (i + 1))) ∧ ∀ j, j ≤ k → val (tP j) = some 0 := by
    intro k
    induction k with
    | zero =>
      have v0 : val 0 = some 0 := by decide +kernel
      exact fun _ => ⟨fun _ => 0, rfl, fun i hi => by omega, fun j _ => v0⟩
    | succ k ih =>
      intro hk
      obtain ⟨tP, t1, t2, t3⟩ := ih (by omega)
      obtain ⟨r, r1, r2⟩ := z_add (t3 k (Nat.le_refl _)) (f2 k (by omega)).2
      refine ⟨fun j => if j ≤ k then tP j else r, by simp [t1], fun i hi => ?_, fun j hj => ?_⟩
      · by_cases hik : i = k
        · subst hik
          simp only [Nat.le_refl, if_true, show ¬ i + 1 ≤ i by omega, if_false]; exact r1
        · have h1 : i ≤ k := by omega
          have h2 : i + 1 ≤ k := by omega
          simp only [h1, h2, if_true]; exact t2 i (by omega)
      · by_cases hjk : j ≤ k
        · simp only [hjk, if_true]; exact t3 j hjk
        · simp only [hjk, if_false]; exact r2
  obtain ⟨tP, t1, t2, t3⟩ := key L (Nat.le_refl _)
  obtain ⟨w, hw, _⟩ := lim_rv
  obtain ⟨lim, l1, l2⟩ := z_mul (t3 L (Nat.le_refl _)) hw
  have small : ∀ c e : C, Zc c → Zc e → ∃ d r, cSub c e = some d ∧ AbsR d r ∧ (FloatKind.f64.format.order r lim == some .gt) = false ∧ (FloatKind.f64.format.order r lim == some .lt || FloatKind.f64.format.order r lim == some .eq) = true := by
    intro c e hc he
    obtain ⟨d, d1, d2⟩ := hc.sub he
    obtain ⟨w1, w2⟩ := cSub_lt d1
    obtain ⟨r, r1, r2⟩ := abs_zero d2 w1 w2
    obtain ⟨o1, o2⟩ := not_gt (zero_rv r2) (zero_rv l2) Rat.le_refl
    exact ⟨d, r, d1, r1, o1, o2⟩
  refine ⟨va, vb, tP, lim, va1, vb1, t1, fun i hi => ⟨rr i, (f2 i hi).1, t2 i hi⟩, l1, fun i hi => ?_, hsame va vb va1 vb1, ?_⟩
  · obtain ⟨x, y, z, hx, hy, hz', e⟩ := split3 (n0 := n0) p1 p2 i (by rw [← hL]; exact hi)
    have h1 := vb3 x y z hx hy hz'
    unfold at3 at h1
    rw [e] at h1
    obtain ⟨d, r, d1, d2, d3, _⟩ := small _ _ h1 (hz i hi)
    exact ⟨d, r, d1, d2, d3⟩
  · obtain ⟨ts, s1, s2, s3⟩ := collect_ex (f := dirTerm h0 h1 h2 n0 n1 n2 g) (P := fun p c => Zc c) L (by
      intro p hp
      unfold dirTerm
      rw [dirJ_eq24 a0 a1 a2]
      exact (hz p hp).mul (wy_rc192 _))
    obtain ⟨s, q1, q2⟩ := csum_z L s3
    obtain ⟨d, r, d1, d2, _, d4⟩ := small s _ q2 (va3 (h0 % n0) (h1 % n1) (h2 % n2) (Nat.mod_lt _ p0) (Nat.mod_lt _ p1) (Nat.mod_lt _ p2))
    exact ⟨s, d, r, by unfold directP; rw [← hL, s1, Option.bind_some, q1], d1, d2, d4⟩

/-- Every grid. -/
theorem whole_law {n0 n1 n2 : Nat} (a0 : N7 n0) (a1 : N7 n1) (a2 : N7 n2) (h576 : n0 * n1 * n2 ≤ 576) (vs : List (Int × Int)) (hl : vs.length = n0 * n1 * n2)
    (hv : ∀ i, i < vs.length → (vs.getD i (0, 0)).1.natAbs ≤ 32768 ∧ (vs.getD i (0, 0)).2.natAbs ≤ 32768) (h0 h1 h2 : Nat) :
    ∃ va vb tP lim, WLaw n0 n1 n2 (n0 * n1 * n2) h0 h1 h2 (wholeP (n0 * n1 * n2) vs) va vb tP lim := by
  by_cases hne : ∃ i, i < n0 * n1 * n2 ∧ ((vs.getD i (0, 0)).1 ≠ 0 ∨ (vs.getD i (0, 0)).2 ≠ 0)
  · exact whole_law1 a0 a1 a2 h576 vs hl hv hne h0 h1 h2
  · refine whole_law0 a0 a1 a2 vs hl (fun i hi => ?_) h0 h1 h2
    by_cases k1 : (vs.getD i (0, 0)).1 = 0
    · by_cases k2 : (vs.getD i (0, 0)).2 = 0
      · exact ⟨k1, k2⟩
      · exact absurd ⟨i, hi, Or.inr k2⟩ hne
    · exact absurd ⟨i, hi, Or.inl k1⟩ hne

end Go.Proofs.Ytdeigbbilcjgjaa
