/-
  Rows and boxes of numbers that are nearly so much: what the transforms make of them.
-/
import Derived.Test.YtdeigbbilcjgjaaIu
import Derived.Test.YtdeigbbilcjgjaaAx
import Derived.Test.YtdeigbbilcjgjaaWf
namespace Go.Proofs.Ytdeigbbilcjgjaa
set_option exponentiation.threshold 5000
set_option linter.unusedVariables false
set_option linter.unusedSimpArgs false

/-- A pair of words stands for X, of size m, but for e. -/
def NC (c : C) (X : Cq) (m e : Rat) : Prop := ∃ R, RC c R ∧ BC (R - X) e ∧ BC X m

/-- A way of making rows: what it does to sizes and to errors. -/
structure Nrow (f : List C → Option (List C)) (n : Nat) (W : Nat → Nat → Cq) (A B c : Rat) : Prop where
  lo : ∀ s : Nat → Rat, (∀ k, k < n → dl ≤ s k) → dl ≤ c * rsum n s
  row : ∀ (xs : List C) (X : Nat → Cq) (s : Nat → Rat) (p q : Rat), xs.length = n → 1 ≤ p → p ≤ q → q ≤ 100 → (∀ k, k < n → NC (xs.getD k (0, 0)) (X k) (p * s k) ((q - p) * s k) ∧ dl ≤ s k) → rsum n s ≤ 1125899906842624 →
    ∃ r, f xs = some r ∧ r.length = n ∧ ∀ j, j < n → NC (r.getD j (0, 0)) (qsum n fun k => W j k * X k) (A * p * (c * rsum n s)) ((B * q - A * p) * (c * rsum n s))

/-- From exact numbers to near ones. -/
theorem near_of {f : List C → Option (List C)} {n : Nat} {W : Nat → Nat → Cq} {K : Rat} (h : Rr f n W K) (hW : ∀ j k, WB (W j k) (71 / 50)) (xs : List C) (X : Nat → Cq) (s : Nat → Rat) (p q : Rat) (hl : xs.length = n) (hp : 1 ≤ p) (hpq : p ≤ q) (hq : q ≤ 100)
    (hx : ∀ k, k < n → NC (xs.getD k (0, 0)) (X k) (p * s k) ((q - p) * s k) ∧ dl ≤ s k) (hT : rsum n s ≤ 1125899906842624) :
    ∃ r, f xs = some r ∧ r.length = n ∧ ∀ j, j < n → NC (r.getD j (0, 0)) (qsum n fun k => W j k * X k) (71 / 50 * p * rsum n s) (((71 / 50 + K * uu) * q - 71 / 50 * p) * rsum n s) := by
  have hdl := dl_pos
  have hx' : ∀ k, ∃ R, k < n → RC (xs.getD k (0, 0)) R ∧ BC (R - X k) ((q - p) * s k) ∧ BC (X k) (p * s k) := by
    intro k
    by_cases hk : k < n
    · obtain ⟨⟨R, hR⟩, _⟩ := hx k hk; exact ⟨R, fun _ => hR⟩
    · exact ⟨0, fun h => absurd h hk⟩
  obtain ⟨V, hV⟩ := Classical.skolem.1 hx'
  have hs : ∀ k, k < n → dl ≤ s k := fun k hk => (hx k hk).2
  have hs0 : 0 ≤ rsum n s := rsum_nonneg fun k hk => by have := hs k hk; grind
  have hVb : ∀ k, k < n → BC (V k) (q * s k) := fun k hk => ((hV k hk).2.1.near (hV k hk).2.2).mono (by grind)
  obtain ⟨r, r1, r2, r3⟩ := h xs V (fun k => q * s k) hl (fun k hk => ⟨(hV k hk).1, hVb k hk, by
    have h1 := hs k hk
    have h2 : 0 ≤ (q - 1) * s k := Rat.mul_nonneg (by grind) (by grind)
    grind⟩) (by
      rw [rsum_mul]
      have := mul_le_l (c := q) hT (by grind)
      have h2 : q * 1125899906842624 ≤ 100 * 1125899906842624 := by grind
      grind)
  refine ⟨r, r1, r2, fun j hj => ?_⟩
  obtain ⟨R, g1, g2⟩ := r3 j hj
  refine ⟨R, g1, ?_, ?_⟩
  · have h1 : BC ((qsum n fun k => W j k * V k) - qsum n fun k => W j k * X k) (71 / 50 * (q - p) * rsum n s) := by
      rw [← qsum_sub]
      have := BC.sum (n := n) (f := fun k => W j k * V k - W j k * X k) (m := fun k => 71 / 50 * (q - p) * s k) (fun k hk => by
        have h1 := BC.mul (hW j k) (hV k hk).2.1
        have e : W j k * (V k - X k) = W j k * V k - W j k * X k := by (refine Cq.ext' ?_ ?_ <;> simp only [Cq.sub_re, Cq.sub_im, Cq.mul_re, Cq.mul_im] <;> grind)
        rw [e] at h1
        exact h1.mono (by grind))
      rw [rsum_mul] at this; exact this
    rw [rsum_mul] at g2
    exact (g2.tri h1).mono (by grind)
  · have := BC.sum (n := n) (f := fun k => W j k * X k) (m := fun k => 71 / 50 * p * s k) (fun k hk => (BC.mul (hW j k) (hV k hk).2.2).mono (by grind))
    rw [rsum_mul] at this; exact this

theorem rsum_dl (n : Nat) (hn : 0 < n) (s : Nat → Rat) (h : ∀ k, k < n → dl ≤ s k) : (n : Rat) * dl ≤ rsum n s := by
  rw [← rsum_const]
  exact rsum_le h
theorem nat_ge1 {n : Nat} (hn : 0 < n) : (1 : Rat) ≤ (n : Rat) := by
  have := Rat.natCast_le_natCast.2 (show 1 ≤ n by omega)
  exact this

def B1 : Rat := 71 / 50 + 97 * uu
/-- There. -/
theorem nrow_there (n : Nat) (h7 : N7 n) : Nrow (lineP 9 false) n (wt false n) (71 / 50) B1 1 where
  lo s hs := by
    have h1 := rsum_dl n h7.pos s hs
    have h2 := mul_le_l (nat_ge1 h7.pos) (show 0 ≤ dl by have := dl_pos; grind)
    grind
  row xs X s p q hl hp hpq hq hx hT := by
    obtain ⟨r, r1, r2, r3⟩ := near_of (rr_line false n h7) (fun j k => th_wb false _) xs X s p q hl hp hpq hq hx hT
    refine ⟨r, r1, r2, fun j hj => ?_⟩
    obtain ⟨R, g1, g2, g3⟩ := r3 j hj
    have hs0 : 0 ≤ rsum n s := rsum_nonneg fun k hk => by have := (hx k hk).2; have := dl_pos; grind
    refine ⟨R, g1, g2.mono ?_, g3.mono (by grind)⟩
    have h1 : 0 ≤ uu * q := Rat.mul_nonneg (by have := uu_pos; grind) (by grind)
    have h2 : 0 ≤ uu * q * rsum n s := Rat.mul_nonneg h1 hs0
    unfold B1
    grind

/-- The matrix of the way back. -/
def wu (n j k : Nat) : Cq := ⟨(wt true n j k).re / n, (wt true n j k).im / n⟩
theorem wu_sum (n j : Nat) (X : Nat → Cq) : (qsum n fun k => wu n j k * X k) = ⟨(qsum n fun k => wt true n j k * X k).re / n, (qsum n fun k => wt true n j k * X k).im / n⟩ := by
  refine Cq.ext' ?_ ?_
  · show (qsum n fun k => wu n j k * X k).re = (qsum n fun k => wt true n j k * X k).re / n
    rw [qsum_re, qsum_re]
    have : (rsum n fun i => (wt true n j i * X i).re) / (n : Rat) = (1 / (n : Rat)) * rsum n fun i => (wt true n j i * X i).re := by grind
    rw [this, ← rsum_mul]
    exact rsum_congr fun i _ => by
      show (wt true n j i).re / n * (X i).re - (wt true n j i).im / n * (X i).im = 1 / (n : Rat) * ((wt true n j i).re * (X i).re - (wt true n j i).im * (X i).im)
      grind
  · show (qsum n fun k => wu n j k * X k).im = (qsum n fun k => wt true n j k * X k).im / n
    rw [qsum_im, qsum_im]
    have : (rsum n fun i => (wt true n j i * X i).im) / (n : Rat) = (1 / (n : Rat)) * rsum n fun i => (wt true n j i * X i).im := by grind
    rw [this, ← rsum_mul]
    exact rsum_congr fun i _ => by
      show (wt true n j i).re / n * (X i).im + (wt true n j i).im / n * (X i).re = 1 / (n : Rat) * ((wt true n j i).re * (X i).im + (wt true n j i).im * (X i).re)
      grind

/-- Both parts over a whole number. -/
theorem RC.div {a : C} {x : Cq} {m : Rat} {n : Nat} (ha : RC a x) (hn : 0 < n) (hn2 : n ≤ 12) (hx : BC x ((n : Rat) * m)) (hd : dl ≤ m) (ht : m ≤ tp) :
    ∃ r z, divC (floatOfInt .f64 n) a = some r ∧ RC r z ∧ BC (z - ⟨x.re / n, x.im / n⟩) (2 * uu * m) := by
  have hn1 := nat_ge1 hn
  have hn12 : (n : Rat) ≤ 12 := by
    have := Rat.natCast_le_natCast.2 hn2
    exact this
  have hb : RV (floatOfInt .f64 ((n : Nat) : Int)) (n : Rat) := by
    have := RV.ofInt (n := ((n : Nat) : Int)) (by omega)
    rwa [Rat.intCast_natCast] at this
  have hne : (n : Rat) ≠ 0 := by grind
  have hnt : Bd (n : Rat) tp := by unfold Bd tp; grind
  have f : ∀ y : Rat, Bd y ((n : Rat) * m) → Bd (y / n) m := by
    intro y hy
    have e : y = y / n * n := (Rat.div_mul_cancel hne).symm
    refine ⟨Rat.le_of_mul_le_mul_right (c := (n : Rat)) ?_ (by grind), Rat.le_of_mul_le_mul_right (c := (n : Rat)) ?_ (by grind)⟩
    · rw [← e]; have := hy.1; grind
    · rw [← e]; have := hy.2; grind
  obtain ⟨r, z, r1, r2, r3⟩ := RV.div ha.1 hb hne hnt (q := x.re / n) (Rat.div_mul_cancel hne) (f _ hx.1) hd ht
  obtain ⟨s, t, s1, s2, s3⟩ := RV.div ha.2 hb hne hnt (q := x.im / n) (Rat.div_mul_cancel hne) (f _ hx.2) hd ht
  exact ⟨(r, s), ⟨z, t⟩, by unfold divC; rw [r1, s1]; rfl, ⟨r2, s2⟩, r3, s3⟩

theorem BC.over {x : Cq} {m : Rat} {n : Nat} (hn : 0 < n) (h : BC x m) : BC ⟨x.re / n, x.im / n⟩ (1 / (n : Rat) * m) := by
  have hn1 := nat_ge1 hn
  have hne : (n : Rat) ≠ 0 := by grind
  have e1 : x.re / n * n = x.re := Rat.div_mul_cancel hne
  have e2 : x.im / n * n = x.im := Rat.div_mul_cancel hne
  have e3 : 1 / (n : Rat) * m * n = m := by grind
  have f : ∀ y : Rat, Bd y m → y / n * n = y → Bd (y / n) (1 / (n : Rat) * m) := by
    intro y hy e
    refine ⟨Rat.le_of_mul_le_mul_right (c := (n : Rat)) ?_ (by grind), Rat.le_of_mul_le_mul_right (c := (n : Rat)) ?_ (by grind)⟩
    · rw [e]; have := hy.1; grind
    · rw [e, e3]; exact hy.2
  exact ⟨f _ h.1 e1, f _ h.2 e2⟩

/-- And back. -/
theorem nrow_undone (n : Nat) (h7 : N7 n) : Nrow undoneP n (wu n) (71 / 50) B1 (1 / (n : Rat)) where
  lo s hs := by
    have h1 := rsum_dl n h7.pos s hs
    have hn1 := nat_ge1 h7.pos
    have hne : (n : Rat) ≠ 0 := by grind
    refine Rat.le_of_mul_le_mul_right (c := (n : Rat)) ?_ (by grind)
    have : 1 / (n : Rat) * rsum n s * n = rsum n s := by grind
    rw [this]; grind
  row xs X s p q hl hp hpq hq hx hT := by
    obtain ⟨r, r1, r2, r3⟩ := near_of (rr_line true n h7) (fun j k => th_wb true _) xs X s p q hl hp hpq hq hx hT
    have hn1 := nat_ge1 h7.pos
    have hne : (n : Rat) ≠ 0 := by grind
    have hu := uu_pos
    have hul := uu_le
    have hdl := dl_pos
    have hsd := rsum_dl n h7.pos s (fun k hk => (hx k hk).2)
    have hs0 : 0 ≤ rsum n s := rsum_nonneg fun k hk => by have := (hx k hk).2; grind
    -- the mean
    obtain ⟨M, hM⟩ : ∃ M, M = 1 / (n : Rat) * rsum n s := ⟨_, rfl⟩
    have hnM : (n : Rat) * M = rsum n s := by rw [hM]; grind
    have hMd : dl ≤ M := by
      refine Rat.le_of_mul_le_mul_right (c := (n : Rat)) ?_ (by grind)
      have : M * n = rsum n s := by grind
      rw [this]; grind
    have hMT : M ≤ rsum n s := by
      rw [← hnM]
      have := mul_le_l hn1 (show 0 ≤ M by grind); grind
    have hqM : M ≤ q * M := by have := mul_le_l (show 1 ≤ q by grind) (show 0 ≤ M by grind); grind
    have hqM2 : q * M ≤ 100 * M := by have := mul_le_l hq (show 0 ≤ M by grind); grind
    have hpM : 0 ≤ p * M := Rat.mul_nonneg (by grind) (by grind)
    have huq : 0 ≤ uu * (q * M) := Rat.mul_nonneg (by grind) (by grind)
    have huq2 : uu * (q * M) ≤ 1 / 1000000000000 * (q * M) := by have := mul_le_l hul (show 0 ≤ q * M by grind); grind
    obtain ⟨l, l1, l2, l3⟩ := collect_ex (f := fun i => divC (floatOfInt .f64 r.length) (r.getD i (0, 0))) (P := fun j c => NC c (qsum n fun k => wu n j k * X k) (71 / 50 * p * M) ((B1 * q - 71 / 50 * p) * M)) n (fun j hj => by
      rw [r2]
      obtain ⟨R, g1, g2, g3⟩ := r3 j hj
      have hb : BC R ((n : Rat) * (143 / 100 * (q * M))) := by
        refine (g2.near g3).mono ?_
        rw [← hnM]
        have e : ((71 / 50 + 94 * uu) * q - 71 / 50 * p) * ((n : Rat) * M) + 71 / 50 * p * ((n : Rat) * M) = (n : Rat) * (71 / 50 * (q * M) + 94 * (uu * (q * M))) := by grind
        rw [e]
        exact mul_le_l (by grind) (by grind)
      obtain ⟨c, z, c1, c2, c3⟩ := g1.div h7.pos h7.le hb (by grind) (by unfold tp; grind)
      refine ⟨c, c1, z, c2, ?_, ?_⟩
      · rw [wu_sum]
        have h1 := BC.over h7.pos g2
        have e : (⟨(R - qsum n fun k => wt true n j k * X k).re / n, (R - qsum n fun k => wt true n j k * X k).im / n⟩ : Cq) = ⟨R.re / n, R.im / n⟩ - ⟨(qsum n fun k => wt true n j k * X k).re / n, (qsum n fun k => wt true n j k * X k).im / n⟩ := by
          refine Cq.ext' ?_ ?_
          · show (R.re - (qsum n fun k => wt true n j k * X k).re) / (n : Rat) = R.re / n - (qsum n fun k => wt true n j k * X k).re / n
            grind
          · show (R.im - (qsum n fun k => wt true n j k * X k).im) / (n : Rat) = R.im / n - (qsum n fun k => wt true n j k * X k).im / n
            grind
        rw [e] at h1
        refine (c3.tri h1).mono ?_
        rw [← hnM]
        have e2 : 1 / (n : Rat) * (((71 / 50 + 94 * uu) * q - 71 / 50 * p) * ((n : Rat) * M)) = ((71 / 50 + 94 * uu) * q - 71 / 50 * p) * M := by grind
        rw [e2]
        unfold B1
        grind
      · rw [wu_sum]
        have h1 := BC.over h7.pos g3
        refine h1.mono ?_
        rw [hM]; grind)
    refine ⟨l, ?_, l2, fun j hj => ?_⟩
    · unfold undoneP
      rw [r1, Option.bind_some, r2, ← r2, ← l1, r2]
    · rw [← hM]; exact l3 j hj

/-- A box. -/
theorem box_near {f : List C → Option (List C)} {n0 n1 n2 : Nat} {W0 W1 W2 : Nat → Nat → Cq} {A B c0 c1 c2 : Rat} (p0 : 0 < n0) (p1 : 0 < n1) (p2 : 0 < n2) (hA : 1 ≤ A) (hAB : A ≤ B) (hB : B ≤ 2)
    (r2 : Nrow f n2 W2 A B c2) (r1 : Nrow f n1 W1 A B c1) (r0 : Nrow f n0 W0 A B c0) (xs : List C) (hL : xs.length = n0 * n1 * n2) (F : Nat → Nat → Nat → Cq) (s : Nat → Nat → Nat → Rat) (p q : Rat) (hp : 1 ≤ p) (hpq : p ≤ q) (hq : q ≤ 20)
    (hF : ∀ x y z, x < n0 → y < n1 → z < n2 → NC (at3 n1 n2 xs x y z) (F x y z) (p * s x y z) ((q - p) * s x y z) ∧ dl ≤ s x y z)
    (t2 : ∀ x y, x < n0 → y < n1 → rsum n2 (s x y) ≤ 1125899906842624) (t1 : ∀ x, x < n0 → rsum n1 (fun y => c2 * rsum n2 (s x y)) ≤ 1125899906842624) (t0 : rsum n0 (fun x => c1 * rsum n1 (fun y => c2 * rsum n2 (s x y))) ≤ 1125899906842624) :
    ∃ ys, boxP f n0 n1 n2 xs = some ys ∧ ys.length = n0 * n1 * n2 ∧ dl ≤ c0 * rsum n0 (fun x => c1 * rsum n1 (fun y => c2 * rsum n2 (s x y))) ∧
      ∀ x y z, x < n0 → y < n1 → z < n2 → NC (at3 n1 n2 ys x y z) (mr0 n0 W0 (mr1 n1 W1 (mr2 n2 W2 F)) x y z) (A * (A * (A * p)) * (c0 * rsum n0 (fun x => c1 * rsum n1 (fun y => c2 * rsum n2 (s x y))))) ((B * (B * (B * q)) - A * (A * (A * p))) * (c0 * rsum n0 (fun x => c1 * rsum n1 (fun y => c2 * rsum n2 (s x y))))) := by
  have mono : ∀ p q : Rat, 1 ≤ p → p ≤ q → 1 ≤ A * p ∧ A * p ≤ B * q := by
    intro p q h1 h2
    have e1 : A * p ≤ A * q := mul_le_l h2 (by grind)
    have e2 : q * A ≤ q * B := mul_le_l hAB (by grind)
    have e3 : 0 ≤ (A - 1) * (p - 1) := Rat.mul_nonneg (by grind) (by grind)
    constructor <;> grind
  have up : ∀ q b : Rat, 0 ≤ q → q ≤ b → B * q ≤ 2 * b := by
    intro q b h1 h2
    have := mul_le_l hB h1
    grind
  obtain ⟨hp1, hpq1⟩ := mono p q hp hpq
  obtain ⟨hp2, hpq2⟩ := mono _ _ hp1 hpq1
  have hq1 := up q 20 (by grind) hq
  have hq2 := up _ _ (by grind) hq1
  have g2 : ∀ x y, ∃ r, x < n0 → y < n1 → f ((List.range n2).map fun z => at3 n1 n2 xs x y z) = some r ∧ ∀ z, z < n2 → NC (r.getD z (0, 0)) (mr2 n2 W2 F x y z) (A * p * (c2 * rsum n2 (s x y))) ((B * q - A * p) * (c2 * rsum n2 (s x y))) := by
    intro x y
    by_cases h : x < n0 ∧ y < n1
    · obtain ⟨r, a, b, c⟩ := r2.row ((List.range n2).map fun z => at3 n1 n2 xs x y z) (fun z => F x y z) (s x y) p q (by simp) hp hpq (by grind) (fun k hk => by
        have := hF x y k h.1 h.2 hk
        simpa [hk] using this) (t2 x y h.1 h.2)
      exact ⟨r, fun _ _ => ⟨a, c⟩⟩
    · exact ⟨[], fun h1 h2 => absurd ⟨h1, h2⟩ h⟩
  obtain ⟨R2, h2⟩ := Classical.skolem.1 (fun x => Classical.skolem.1 (g2 x))
  obtain ⟨ya, a1, a2, a3⟩ := along_2 (f := f) (n0 := n0) p1 p2 hL R2 (fun x y hx hy => (h2 x y hx hy).1)
  have d2 : ∀ x y, x < n0 → y < n1 → dl ≤ c2 * rsum n2 (s x y) := fun x y hx hy => r2.lo _ fun k hk => (hF x y k hx hy hk).2
  have ha : ∀ x y z, x < n0 → y < n1 → z < n2 → NC (at3 n1 n2 ya x y z) (mr2 n2 W2 F x y z) (A * p * (c2 * rsum n2 (s x y))) ((B * q - A * p) * (c2 * rsum n2 (s x y))) := fun x y z hx hy hz => by rw [a3 x y z hx hy hz]; exact (h2 x y hx hy).2 z hz
  rw [hL] at a2
  generalize mr2 n2 W2 F = F2 at ha ⊢
  obtain ⟨s1, hs1⟩ : ∃ s1 : Nat → Nat → Rat, s1 = fun x y => c2 * rsum n2 (s x y) := ⟨_, rfl⟩
  have es1 : ∀ x y, c2 * rsum n2 (s x y) = s1 x y := fun x y => by rw [hs1]
  simp only [es1] at ha d2 t1 t0 ⊢
  have g1 : ∀ x z, ∃ r, x < n0 → z < n2 → f ((List.range n1).map fun y => at3 n1 n2 ya x y z) = some r ∧ ∀ y, y < n1 → NC (r.getD y (0, 0)) (mr1 n1 W1 F2 x y z) (A * (A * p) * (c1 * rsum n1 (s1 x))) ((B * (B * q) - A * (A * p)) * (c1 * rsum n1 (s1 x))) := by
    intro x z
    by_cases h : x < n0 ∧ z < n2
    · obtain ⟨r, a, b, c⟩ := r1.row ((List.range n1).map fun y => at3 n1 n2 ya x y z) (fun y => F2 x y z) (s1 x) (A * p) (B * q) (by simp) hp1 hpq1 (by grind) (fun k hk => by
        have h1 := ha x k z h.1 hk h.2
        have h2 := d2 x k h.1 hk
        refine ⟨?_, h2⟩
        simpa [hk] using h1) (t1 x h.1)
      exact ⟨r, fun _ _ => ⟨a, c⟩⟩
    · exact ⟨[], fun h1 h2 => absurd ⟨h1, h2⟩ h⟩
  obtain ⟨R1, h1⟩ := Classical.skolem.1 (fun x => Classical.skolem.1 (g1 x))
  obtain ⟨yb, b1, b2, b3⟩ := along_1 (f := f) (n0 := n0) p1 p2 a2 R1 (fun x z hx hz => (h1 x z hx hz).1)
  have d1 : ∀ x, x < n0 → dl ≤ c1 * rsum n1 (s1 x) := fun x hx => r1.lo _ fun k hk => d2 x k hx hk
  have hb : ∀ x y z, x < n0 → y < n1 → z < n2 → NC (at3 n1 n2 yb x y z) (mr1 n1 W1 F2 x y z) (A * (A * p) * (c1 * rsum n1 (s1 x))) ((B * (B * q) - A * (A * p)) * (c1 * rsum n1 (s1 x))) := fun x y z hx hy hz => by rw [b3 x y z hx hy hz]; exact (h1 x z hx hz).2 y hy
  rw [a2] at b2
  generalize mr1 n1 W1 F2 = F1 at hb ⊢
  have et : ∀ x, (rsum n1 fun y => s1 x y) = rsum n1 (s1 x) := fun x => rfl
  simp only [et] at t0 ⊢
  obtain ⟨s0, hs0⟩ : ∃ s0 : Nat → Rat, s0 = fun x => c1 * rsum n1 (s1 x) := ⟨_, rfl⟩
  have es0 : ∀ x, c1 * rsum n1 (s1 x) = s0 x := fun x => by rw [hs0]
  simp only [es0] at hb d1 t0 ⊢
  have g0 : ∀ y z, ∃ r, y < n1 → z < n2 → f ((List.range n0).map fun x => at3 n1 n2 yb x y z) = some r ∧ ∀ x, x < n0 → NC (r.getD x (0, 0)) (mr0 n0 W0 F1 x y z) (A * (A * (A * p)) * (c0 * rsum n0 s0)) ((B * (B * (B * q)) - A * (A * (A * p))) * (c0 * rsum n0 s0)) := by
    intro y z
    by_cases h : y < n1 ∧ z < n2
    · obtain ⟨r, a, b, c⟩ := r0.row ((List.range n0).map fun x => at3 n1 n2 yb x y z) (fun x => F1 x y z) s0 (A * (A * p)) (B * (B * q)) (by simp) hp2 hpq2 (by grind) (fun k hk => by
        have h1 := hb k y z hk h.1 h.2
        have h2 := d1 k hk
        refine ⟨?_, h2⟩
        simpa [hk] using h1) t0
      exact ⟨r, fun _ _ => ⟨a, c⟩⟩
    · exact ⟨[], fun h1 h2 => absurd ⟨h1, h2⟩ h⟩
  obtain ⟨R0, h0⟩ := Classical.skolem.1 (fun y => Classical.skolem.1 (g0 y))
  obtain ⟨yc, e1, e2, e3⟩ := along_0 (f := f) (n0 := n0) p0 p1 p2 b2 R0 (fun y z hy hz => (h0 y z hy hz).1)
  refine ⟨yc, ?_, by rw [e2, b2], r0.lo _ d1, fun x y z hx hy hz => by rw [e3 x y z hx hy hz]; exact (h0 y z hy hz).2 x hx⟩
  unfold boxP
  rw [a1, Option.bind_some, b1, Option.bind_some, e1]

end Go.Proofs.Ytdeigbbilcjgjaa
