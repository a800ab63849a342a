/-
  THE PLAIN LAW of WholeTransforms.
-/
import Derived.Test.YtdeigbbilcjgjaaLb
namespace Go.Proofs.Ytdeigbbilcjgjaa
set_option exponentiation.threshold 5000
set_option linter.unusedVariables false
set_option linter.unusedSimpArgs false

def mx (z : Cq) : Rat := if ab z.re ≤ ab z.im then ab z.im else ab z.re
theorem bc_mx (z : Cq) : BC z (mx z) := by
  have h1 := bd_ab z.re
  have h2 := bd_ab z.im
  unfold mx
  by_cases h : ab z.re ≤ ab z.im
  · rw [if_pos h]; exact ⟨h1.mono h, h2⟩
  · rw [if_neg h]; exact ⟨h1, h2.mono (by grind)⟩
theorem mx_le {z : Cq} {m : Rat} (h : BC z m) : mx z ≤ m := by
  have h1 := ab_le h.1
  have h2 := ab_le h.2
  unfold mx; split <;> assumption
theorem rsum_bd {n : Nat} {f : Nat → Rat} {c : Rat} (hn : n ≤ 12) (hc : 0 ≤ c) (h : ∀ k, k < n → f k ≤ c) : rsum n f ≤ 12 * c := by
  have h1 := rsum_le (g := fun _ => c) h
  rw [rsum_const] at h1
  have hn2 : (n : Rat) ≤ 12 := by
    have := Rat.natCast_le_natCast.2 hn
    exact this
  have := mul_le_l hn2 hc
  grind

theorem e6 : B1 * (B1 * (B1 * (B1 * (B1 * (B1 * 1))))) - 71 / 50 * (71 / 50 * (71 / 50 * (71 / 50 * (71 / 50 * (71 / 50 * 1))))) ≤ 3400 * uu := by unfold B1 uu; decide +kernel
theorem e3 : B1 * (B1 * (B1 * 1)) - 71 / 50 * (71 / 50 * (71 / 50 * 1)) ≤ 600 * uu := by unfold B1 uu; decide +kernel
theorem b1_facts : 71 / 50 ≤ B1 ∧ B1 ≤ 2 ∧ B1 * (B1 * (B1 * 1)) ≤ 20 ∧ 71 / 50 * (71 / 50 * (71 / 50 * 1)) ≤ B1 * (B1 * (B1 * 1)) := by unfold B1 uu; decide +kernel

theorem split3 {n0 n1 n2 : Nat} (p1 : 0 < n1) (p2 : 0 < n2) (i : Nat) (hi : i < n0 * n1 * n2) : ∃ x y z, x < n0 ∧ y < n1 ∧ z < n2 ∧ (x * n1 + y) * n2 + z = i := by
  refine ⟨i / (n1 * n2), i / n2 % n1, i % n2, Nat.div_lt_of_lt_mul (by rw [Nat.mul_comm (n1 * n2), ← Nat.mul_assoc]; exact hi), Nat.mod_lt _ p1, Nat.mod_lt _ p2, ?_⟩
  have h1 := Nat.div_add_mod (i / n2) n1
  have h2 := Nat.div_add_mod i n2
  rw [Nat.mul_comm n1 n2, ← Nat.div_div_eq_div_mul, Nat.mul_comm (i / n2 / n1), h1, Nat.mul_comm]; exact h2

theorem same_law {n0 n1 n2 : Nat} (vs : List (Int × Int)) (hv : ∀ i, i < vs.length → (vs.getD i (0, 0)).1.natAbs ≤ 32768 ∧ (vs.getD i (0, 0)).2.natAbs ≤ 32768) (va vb : List C)
    (ha : boxP (lineP 9 false) n0 n1 n2 (wholeP (n0 * n1 * n2) vs) = some va) (hb : boxP undoneP n0 n1 n2 va = some vb) :
    N4 n0 → N4 n1 → N4 n2 → ∀ i, i < n0 * n1 * n2 → cEq (vb.getD i (0, 0)) ((wholeP (n0 * n1 * n2) vs).getD i (0, 0)) = true := by
  intro a0 a1 a2
  obtain ⟨va', vb', vc, vd, H⟩ := exact_law a0 a1 a2 vs hv
  have e1 := H.ha
  rw [ha] at e1; cases e1
  have e2 := H.hb
  rw [hb] at e2; cases e2
  exact H.eb

/-- A grid that isn't nought. -/
theorem whole_law1 {n0 n1 n2 : Nat} (a0 : N7 n0) (a1 : N7 n1) (a2 : N7 n2) (h576 : n0 * n1 * n2 ≤ 576) (vs : List (Int × Int)) (hl : vs.length = n0 * n1 * n2)
    (hv : ∀ i, i < vs.length → (vs.getD i (0, 0)).1.natAbs ≤ 32768 ∧ (vs.getD i (0, 0)).2.natAbs ≤ 32768) (hne : ∃ i, i < n0 * n1 * n2 ∧ ((vs.getD i (0, 0)).1 ≠ 0 ∨ (vs.getD i (0, 0)).2 ≠ 0)) (h0 h1 h2 : Nat) :
    ∃ va vb tP lim, WLaw n0 n1 n2 (n0 * n1 * n2) h0 h1 h2 (wholeP (n0 * n1 * n2) vs) va vb tP lim := by
  have p0 := a0.pos
  have p1 := a1.pos
  have p2 := a2.pos
  have hu := uu_pos
  have hul := uu_le
  have hdl := dl_pos
  have hd2 : 1000000000000000 * dl ≤ 1 := by unfold dl; grind
  obtain ⟨L, hL⟩ : ∃ L, L = n0 * n1 * n2 := ⟨_, rfl⟩
  have hsame := same_law (n0 := n0) (n1 := n1) (n2 := n2) vs hv
  rw [← hL] at h576 hl hne hsame ⊢
  obtain ⟨G, hG⟩ : ∃ G, G = wG vs := ⟨_, rfl⟩
  obtain ⟨g, hg⟩ : ∃ g, g = wholeP L vs := ⟨_, rfl⟩
  have hgl : g.length = n0 * n1 * n2 := by rw [hg, ← hL]; exact wholeP_length _ _
  have hrc : ∀ i, i < L → RC (g.getD i (0, 0)) (G i) := by
    intro i hi
    rw [hg, wP_get L vs hl i hi, hG]
    obtain ⟨k1, k2⟩ := hv i (by omega)
    exact ⟨RV.ofInt (by omega), RV.ofInt (by omega)⟩
  have hlt : ∀ i, i < L → (g.getD i (0, 0)).1 < 18446744073709551616 ∧ (g.getD i (0, 0)).2 < 18446744073709551616 := fun i hi => by rw [hg]; exact wP_lt L vs hl i hi
  have hGb : ∀ i, i < L → BC (G i) 32768 := by
    intro i hi
    obtain ⟨k1, k2⟩ := hv i (by omega)
    have f : ∀ n : Int, n.natAbs ≤ 32768 → Bd (n : Rat) 32768 := by
      intro n hn
      have q1 : (n : Rat) ≤ ((32768 : Int) : Rat) := Rat.intCast_le_intCast.2 (by omega)
      have q2 : ((-n : Int) : Rat) ≤ ((32768 : Int) : Rat) := Rat.intCast_le_intCast.2 (by omega)
      rw [Rat.intCast_neg] at q2
      have c : ((32768 : Int) : Rat) = 32768 := rfl
      rw [c] at q1 q2
      unfold Bd; grind
    rw [hG]; exact ⟨f _ k1, f _ k2⟩
  obtain ⟨s, hs⟩ : ∃ s : Nat → Rat, s = fun i => mx (G i) + dl := ⟨_, rfl⟩
  have hmx0 : ∀ i, 0 ≤ mx (G i) := fun i => (bc_mx (G i)).nonneg
  have hsd : ∀ i, dl ≤ s i := fun i => by rw [hs]; have := hmx0 i; grind
  have hsb : ∀ i, BC (G i) (s i) := fun i => (bc_mx (G i)).mono (by rw [hs]; grind)
  have hs32 : ∀ i, i < L → s i ≤ 32769 := fun i hi => by rw [hs]; have := mx_le (hGb i hi); grind
  obtain ⟨S, hS⟩ : ∃ S, rsum L s = S := ⟨_, rfl⟩
  have hs0 : ∀ i, i < L → 0 ≤ s i := fun i _ => by have := hsd i; grind
  have hS1 : 1 ≤ S := by
    obtain ⟨i, hi, hne⟩ := hne
    have k1 := rsum_ge hs0 i hi
    rw [hS] at k1
    have k2 : 1 ≤ mx (G i) := by
      have f : ∀ n : Int, n ≠ 0 → 1 ≤ ab (n : Rat) := by
        intro n hn
        unfold ab
        have c1 : ((1 : Int) : Rat) = 1 := rfl
        rcases (by omega : 1 ≤ n ∨ n ≤ -1) with h | h
        · have q := Rat.intCast_le_intCast.2 h
          rw [c1] at q
          split <;> grind
        · have q := Rat.intCast_le_intCast.2 h
          have c2 : ((-1 : Int) : Rat) = -1 := rfl
          rw [c2] at q
          split <;> grind
      have q1 : ab (G i).re ≤ mx (G i) := by unfold mx; split <;> grind
      have q2 : ab (G i).im ≤ mx (G i) := by unfold mx; split <;> grind
      rcases hne with h | h
      · have := f _ h
        rw [hG] at q1 ⊢
        exact Rat.le_trans this q1
      · have := f _ h
        rw [hG] at q2 ⊢
        exact Rat.le_trans this q2
    rw [hs] at k1
    simp only at k1
    grind
  have hST : S ≤ 32769 * 576 := by
    have k1 := rsum_le (n := L) (f := s) (g := fun _ => 32769) hs32
    rw [rsum_const, hS] at k1
    have hLr : (L : Rat) ≤ 576 := by
      have := Rat.natCast_le_natCast.2 h576
      exact this
    grind
  have huS : 0 < uu * S := Rat.mul_pos hu (by grind)
  have huS2 : uu * S ≤ 1 / 1000000000000 * S := by have := mul_le_l hul (show 0 ≤ S by grind); grind
  -- the total and the limit
  obtain ⟨tP, tv, a, t0, t1, t2, t3⟩ := total_steps (g := g) (G := G) (s := s) (S := S) L h576 hS hS1 (by grind) (fun i hi => ⟨hrc i hi, hsb i, hsd i, hlt i hi⟩)
  have hSa : S ≤ 1004 / 1000 * rsum L a + 1152 * dl := by
    have k1 : rsum L s ≤ rsum L (fun i => 1004 / 1000 * a i + 2 * dl) := rsum_le fun i hi => by
      have := mx_le (t2 i hi).1
      rw [hs]; grind
    rw [rsum_add, rsum_mul, rsum_const, hS] at k1
    have hLr : (L : Rat) ≤ 576 := by
      have := Rat.natCast_le_natCast.2 h576
      exact this
    have := mul_le_l hLr (show 0 ≤ 2 * dl by grind)
    grind
  obtain ⟨v1, v2, v3⟩ := t3 L (Nat.le_refl _)
  have hLu : (L : Rat) * (2 * (uu * S)) ≤ 1152 * (uu * S) := by
    have hLr : (L : Rat) ≤ 576 := by
      have := Rat.natCast_le_natCast.2 h576
      exact this
    have := mul_le_l hLr (show 0 ≤ 2 * (uu * S) by grind)
    grind
  have hT : 99 / 100 * S ≤ tv L ∧ tv L ≤ 2 * S := by
    unfold Bd at v2
    constructor <;> grind
  obtain ⟨lim, lv, l1, l2, l3⟩ := v1.mul lim_rv (m := 2 * S / 1099511627776) (by unfold Bd; grind) (by grind) (by unfold tp; grind)
  have hlim : 98 / 100 * S / 1099511627776 ≤ lv := by
    have e : uu * (2 * S / 1099511627776) = 2 * (uu * S) / 1099511627776 := by grind
    rw [e] at l3
    unfold Bd at l3
    grind
  -- there
  obtain ⟨F, hF⟩ : ∃ F : Nat → Nat → Nat → Cq, F = fun x y z => G ((x * n1 + y) * n2 + z) := ⟨_, rfl⟩
  obtain ⟨s3, hs3⟩ : ∃ s3 : Nat → Nat → Nat → Rat, s3 = fun x y z => s ((x * n1 + y) * n2 + z) := ⟨_, rfl⟩
  have hpl : ∀ x y z, x < n0 → y < n1 → z < n2 → (x * n1 + y) * n2 + z < L := fun x y z hx hy hz => by rw [hL]; exact place3_lt _ _ _ _ _ _ hx hy hz
  have hS3 : (rsum n0 fun x => rsum n1 fun y => rsum n2 (s3 x y)) = S := by
    rw [← hS, hL, rsum_split, rsum_split, hs3]
  have hS3' : (1 * rsum n0 fun x => 1 * rsum n1 fun y => 1 * rsum n2 (s3 x y)) = S := by
    simp only [Rat.one_mul]; exact hS3
  have s3b : ∀ x y z, x < n0 → y < n1 → z < n2 → s3 x y z ≤ 32769 := fun x y z hx hy hz => by rw [hs3]; exact hs32 _ (hpl x y z hx hy hz)
  obtain ⟨bf1, bf2, bf3, bf4⟩ := b1_facts
  have n0le := a0.le
  have n1le := a1.le
  have n2le := a2.le
  have r2b : ∀ x y, x < n0 → y < n1 → rsum n2 (s3 x y) ≤ 12 * 32769 := fun x y hx hy => rsum_bd n2le (by grind) (fun z hz => s3b x y z hx hy hz)
  have r1b : ∀ x, x < n0 → (rsum n1 fun y => 1 * rsum n2 (s3 x y)) ≤ 12 * (12 * 32769) := fun x hx => rsum_bd n1le (by grind) (fun y hy => by have := r2b x y hx hy; grind)
  have r0b : (rsum n0 fun x => 1 * rsum n1 fun y => 1 * rsum n2 (s3 x y)) ≤ 12 * (12 * (12 * 32769)) := rsum_bd n0le (by grind) (fun x hx => by have := r1b x hx; grind)
  obtain ⟨va, va1, va2, _, va3⟩ := box_near p0 p1 p2 (by grind) bf1 bf2 (nrow_there n2 a2) (nrow_there n1 a1) (nrow_there n0 a0) g hgl F s3 1 1 (by grind) (by grind) (by grind) (fun x y z hx hy hz => by
      have hi := hpl x y z hx hy hz
      refine ⟨⟨G ((x * n1 + y) * n2 + z), hrc _ hi, ?_, ?_⟩, by rw [hs3]; exact hsd _⟩
      · have e : G ((x * n1 + y) * n2 + z) - F x y z = 0 := by
          rw [hF]
          exact Cq.ext' (by simp only [Cq.sub_re, Cq.zero_re]; grind) (by simp only [Cq.sub_im, Cq.zero_im]; grind)
        rw [e]; exact BC.zero (by grind)
      · rw [hF, hs3]; exact (hsb _).mono (by grind))
    (fun x y hx hy => by have := r2b x y hx hy; grind) (fun x hx => by have := r1b x hx; grind) (by grind)
  simp only [hS3'] at va3
  obtain ⟨F3, hF3⟩ : ∃ F3, F3 = mr0 n0 (wt false n0) (mr1 n1 (wt false n1) (mr2 n2 (wt false n2) F)) := ⟨_, rfl⟩
  rw [← hF3] at va3
  -- and back
  have cst : ∀ n : Nat, 0 < n → 1 / (n : Rat) * ((n : Rat) * S) = S := fun n hn => by
    have := nat_ge1 hn
    grind
  have hSS : (1 / (n0 : Rat) * rsum n0 fun _ => 1 / (n1 : Rat) * rsum n1 fun _ => 1 / (n2 : Rat) * rsum n2 fun _ => S) = S := by
    simp only [rsum_const, cst n2 p2, cst n1 p1, cst n0 p0]
  obtain ⟨vb, vb1, vb2, _, vb3⟩ := box_near p0 p1 p2 (by grind) bf1 bf2 (nrow_undone n2 a2) (nrow_undone n1 a1) (nrow_undone n0 a0) va va2 F3 (fun _ _ _ => S) (71 / 50 * (71 / 50 * (71 / 50 * 1))) (B1 * (B1 * (B1 * 1))) (by grind) bf4 bf3 (fun x y z hx hy hz => ⟨va3 x y z hx hy hz, by grind⟩)
    (fun x y hx hy => by have := rsum_bd (f := fun _ => S) n2le (by grind) (fun k _ => Rat.le_refl); grind)
    (fun x hx => by
      simp only [rsum_const, cst n2 p2]
      have := rsum_bd (n := n1) (f := fun _ => S) n1le (by grind) (fun k _ => Rat.le_refl)
      rw [rsum_const] at this; grind)
    (by
      simp only [rsum_const, cst n2 p2, cst n1 p1]
      have := rsum_bd (n := n0) (f := fun _ => S) n0le (by grind) (fun k _ => Rat.le_refl)
      rw [rsum_const] at this; grind)
  simp only [hSS] at vb3
  have E6 : (B1 * (B1 * (B1 * (B1 * (B1 * (B1 * 1))))) - 71 / 50 * (71 / 50 * (71 / 50 * (71 / 50 * (71 / 50 * (71 / 50 * 1)))))) * S ≤ 3400 * (uu * S) := by
    have := mul_le_l e6 (show 0 ≤ S by grind); grind
  have E3 : (B1 * (B1 * (B1 * 1)) - 71 / 50 * (71 / 50 * (71 / 50 * 1))) * S ≤ 600 * (uu * S) := by
    have := mul_le_l e3 (show 0 ≤ S by grind); grind
  have huS3 : 4000 * (uu * S) ≤ tp / 1000 := by unfold tp; grind
  have hdu : dl ≤ uu * S := by
    have : dl ≤ uu := by unfold dl uu; decide +kernel
    have k2 := mul_le_l hS1 (show 0 ≤ uu by grind)
    grind
  have hcmp : ∀ q : Rat, q ≤ 145 / 100 * (3500 * (uu * S)) → q ≤ lv := by
    intro q hq
    have : uu * S = S / 9007199254740000 := by unfold uu; grind
    rw [this] at hq
    grind
  have small : ∀ (c e : C) (x y : Cq), RC c x → RC e y → BC (x - y) (3450 * (uu * S)) → ∃ d r, cSub c e = some d ∧ AbsR d r ∧ (FloatKind.f64.format.order r lim == some .gt) = false ∧ (FloatKind.f64.format.order r lim == some .lt || FloatKind.f64.format.order r lim == some .eq) = true := by
    intro c e x y hc he hxy
    obtain ⟨d, z, d1, d2, d3⟩ := hc.sub he hxy (by grind) (by grind)
    obtain ⟨w1, w2⟩ := cSub_lt d1
    have hz : BC z (3500 * (uu * S)) := by
      refine (d3.near hxy).mono ?_
      have := mul_le_l hul (show 0 ≤ 3450 * (uu * S) by grind)
      grind
    obtain ⟨x', y', m, n, r, av, c1, c2, c3, c4, c5, c6⟩ := abs_near d2 (hz.mono (by grind)) w1 w2
    have hle := hcmp av (c5 _ hz (by grind))
    obtain ⟨o1, o2⟩ := not_gt c2 l2 hle
    exact ⟨d, r, d1, ⟨x', y', m, n, c1⟩, o1, o2⟩
  refine ⟨va, vb, tP, lim, by rw [← hg]; exact va1, vb1, t0, fun i hi => by rw [← hg]; exact t1 i hi, l1, fun i hi => ?_, hsame va vb (by rw [← hg]; exact va1) vb1, ?_⟩
  · obtain ⟨x, y, z, hx, hy, hz, e⟩ := split3 (n0 := n0) p1 p2 i (by rw [← hL]; exact hi)
    obtain ⟨R, g1, g2, _⟩ := vb3 x y z hx hy hz
    have g3 := back_near a0 a1 a2 F s3 (fun x y z hx hy hz => by rw [hF, hs3]; exact hsb _) x y z hx hy hz
    rw [← hF3] at g3
    have hb3 : (rsum n0 fun x => rsum n1 fun y => rsum n2 fun z => s3 x y z) = S := hS3
    rw [hb3] at g3
    have g4 := g2.tri g3
    unfold at3 at g1
    rw [e] at g1
    have hFi : F x y z = G i := by rw [hF]; show G _ = _; rw [e]
    rw [hFi] at g4
    rw [← hg]
    obtain ⟨d, r, d1, d2, d3, _⟩ := small _ _ R (G i) g1 (hrc i hi) (g4.mono (by
      have : 24 * uu * S = 24 * (uu * S) := by grind
      rw [this]; grind))
    exact ⟨d, r, d1, d2, d3⟩
  · obtain ⟨r, R, r1, r2, r3⟩ := direct_near a0 a1 a2 (by rw [← hL]; exact h576) g G s S (by rw [← hL]; exact hS) (by grind) (fun i hi => ⟨hrc i (by rw [hL]; exact hi), hsb i, hsd i⟩) h0 h1 h2
    obtain ⟨V, k1, k2, _⟩ := va3 (h0 % n0) (h1 % n1) (h2 % n2) (Nat.mod_lt _ p0) (Nat.mod_lt _ p1) (Nat.mod_lt _ p2)
    rw [hF3, hF] at k2
    have k3 := k2.neg
    have en : ∀ a b : Cq, -(a - b) = b - a := fun a b => by (refine Cq.ext' ?_ ?_ <;> simp only [Cq.sub_re, Cq.sub_im, Cq.neg_re, Cq.neg_im] <;> grind)
    rw [en] at k3
    have k4 := r3.tri k3
    obtain ⟨d, q, d1, d2, _, d4⟩ := small _ _ R V r2 k1 (k4.mono (by
      have : 900 * uu * S = 900 * (uu * S) := by grind
      rw [this]; grind))
    exact ⟨r, d, q, by rw [← hg]; exact r1, d1, d2, d4⟩

end Go.Proofs.Ytdeigbbilcjgjaa
