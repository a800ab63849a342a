/-
  The rounded transform of a line against the sums themselves.
-/
import Derived.Test.YtdeigbbilcjgjaaIs
import Derived.Test.YtdeigbbilcjgjaaEy
namespace Go.Proofs.Ytdeigbbilcjgjaa
set_option exponentiation.threshold 5000
set_option linter.unusedVariables false
set_option linter.unusedSimpArgs false

/-- A way of making rows, but for K units of rounding. -/
def Rr (f : List C → Option (List C)) (n : Nat) (W : Nat → Nat → Cq) (K : Rat) : Prop :=
  ∀ (xs : List C) (V : Nat → Cq) (m : Nat → Rat), xs.length = n → (∀ k, k < n → RC (xs.getD k (0, 0)) (V k) ∧ BC (V k) (m k) ∧ dl ≤ m k) → rsum n m ≤ 1152921504606846976 →
    ∃ r, f xs = some r ∧ r.length = n ∧ ∀ j, j < n → ∃ R, RC (r.getD j (0, 0)) R ∧ BC (R - qsum n fun k => W j k * V k) (K * uu * rsum n m)

theorem uu_pos : 0 < uu := by unfold uu; grind
theorem uu_le : uu ≤ 1 / 1000000000000 := by unfold uu; grind
theorem RC.zero : RC (0, 0) 0 := by
  have h : val 0 = some 0 := by decide +kernel
  have h0 : ((0 : Int) : Rat) = 0 := rfl
  have h1 : RV 0 0 := ⟨0, h, by rw [h0]; grind⟩
  exact ⟨h1, h1⟩
theorem rsum_take {n k : Nat} {t : Nat → Rat} (h : ∀ i, i < n → 0 ≤ t i) (hk : k ≤ n) : rsum k t ≤ rsum n t := by
  have e := rsum_app t k (n - k)
  rw [show k + (n - k) = n by omega] at e
  have := rsum_nonneg (n := n - k) (f := fun j => t (k + j)) (fun j hj => h (k + j) (by omega))
  rw [e]; grind

/-- A sum from the left. -/
theorem csum_near {ts : List C} {T : Nat → Cq} {t : Nat → Rat} {S : Rat} (n : Nat) (h : ∀ k, k < n → RC (ts.getD k (0, 0)) (T k) ∧ BC (T k) (t k)) (hS : rsum n t ≤ S) (hd : dl ≤ S) (ht : S ≤ 1267650600228229000000000000) (hn : n ≤ 600) :
    ∃ r, csumN ts n = some r ∧ ∃ R, RC r R ∧ BC (R - qsum n T) ((n : Rat) * (1001 / 1000 * (uu * S))) := by
  have hu := uu_pos
  have hul := uu_le
  have hdl := dl_pos
  have hS0 : 0 ≤ S := by grind
  have huS : 0 ≤ uu * S := Rat.mul_nonneg (by grind) hS0
  have huS2 : uu * S ≤ 1 / 1000000000000 * S := by have := mul_le_l hul hS0; grind
  have key : ∀ k, k ≤ n → ∃ r, csumN ts k = some r ∧ ∃ R, RC r R ∧ BC (R - qsum k T) ((k : Rat) * (1001 / 1000 * (uu * S))) := by
    intro k
    induction k with
    | zero =>
      intro _
      refine ⟨(0, 0), rfl, 0, RC.zero, ?_⟩
      have e : (0 : Cq) - qsum 0 T = 0 := by simp only [qsum]; exact Cq.ext' (by simp only [Cq.sub_re, Cq.zero_re]; grind) (by simp only [Cq.sub_im, Cq.zero_im]; grind)
      rw [e]
      have h0 : ((0 : Nat) : Rat) = 0 := rfl
      exact BC.zero (by rw [h0]; grind)
    | succ k ih =>
      intro hk
      obtain ⟨s, s1, R, s2, s3⟩ := ih (by omega)
      have hkr : (k : Rat) ≤ 600 := by
        have := Rat.natCast_le_natCast.2 (show k ≤ 600 by omega)
        exact this
      have hk0 : (0 : Rat) ≤ (k : Rat) := by
        have := Rat.natCast_le_natCast.2 (show 0 ≤ k by omega)
        exact this
      have hE : (k : Rat) * (1001 / 1000 * (uu * S)) ≤ 600 * (1001 / 1000 * (uu * S)) := by
        have := mul_le_l hkr (show 0 ≤ 1001 / 1000 * (uu * S) by grind); grind
      have hsum : rsum (k + 1) t ≤ S := by
        have := rsum_take (n := n) (k := k + 1) (t := t) (fun i hi => (h i hi).2.nonneg) hk
        grind
      obtain ⟨hc, hb⟩ := h k (by omega)
      have hp : BC (qsum (k + 1) T) (rsum (k + 1) t) := BC.sum fun i hi => (h i (by omega)).2
      have hb2 : BC (R + T k) (1001 / 1000 * S) := by
        have e : R + T k - qsum (k + 1) T = R - qsum k T := by
          simp only [qsum]
          exact Cq.ext' (by simp only [Cq.sub_re, Cq.add_re]; grind) (by simp only [Cq.sub_im, Cq.add_im]; grind)
        have h2 : BC (R + T k - qsum (k + 1) T) ((k : Rat) * (1001 / 1000 * (uu * S))) := by rw [e]; exact s3
        exact (h2.near hp).mono (by grind)
      obtain ⟨r, z, r1, r2, r3⟩ := s2.add hc hb2 (by grind) (by unfold tp; grind)
      refine ⟨r, by simp only [csumN, s1, Option.bind_some, r1], z, r2, ?_⟩
      have h3 : BC (R + T k - qsum (k + 1) T) ((k : Rat) * (1001 / 1000 * (uu * S))) := by
        have e : R + T k - qsum (k + 1) T = R - qsum k T := by
          simp only [qsum]
          exact Cq.ext' (by simp only [Cq.sub_re, Cq.add_re]; grind) (by simp only [Cq.sub_im, Cq.add_im]; grind)
        rw [e]; exact s3
      refine (r3.tri h3).mono ?_
      have ek : ((k + 1 : Nat) : Rat) = (k : Rat) + 1 := by rw [Rat.natCast_add]; rfl
      rw [ek]
      have e1 : uu * (1001 / 1000 * S) = 1001 / 1000 * (uu * S) := by grind
      rw [e1]
      generalize 1001 / 1000 * (uu * S) = q
      grind
  exact key n (Nat.le_refl _)

theorem cq_comm (a b : Cq) : a * b = b * a := Cq.ext' (by simp only [Cq.mul_re]; grind) (by simp only [Cq.mul_im]; grind)

/-- Lines of one or three numbers. -/
theorem rr_odd (f : Nat) (back : Bool) (n : Nat) (hn : n = 1 ∨ n = 3) : Rr (lineP (f + 1) back) n (wt back n) 10 := by
  intro xs V m hl hx hT
  have h7 : N7 n := by rcases hn with rfl | rfl <;> simp [N7]
  have hn3 : n ≤ 3 := by omega
  have hu := uu_pos
  have hul := uu_le
  have hdl := dl_pos
  have hm0 : ∀ k, k < n → 0 ≤ m k := fun k hk => by have := (hx k hk).2.2; grind
  have hm : ∀ k, k < n → m k ≤ rsum n m := fun k hk => rsum_ge hm0 k hk
  have hS : dl ≤ rsum n m := by
    have h1 := hm 0 h7.pos
    have h2 := (hx 0 h7.pos).2.2
    grind
  have huS : 0 ≤ uu * rsum n m := Rat.mul_nonneg (by grind) (by grind)
  obtain ⟨r, r1, r2, r3⟩ := collect_ex (f := oddOut back xs) (P := fun j c => ∃ R, RC c R ∧ BC (R - qsum n fun k => wt back n j k * V k) (10 * uu * rsum n m)) n (by
    intro j hj
    obtain ⟨t, t1, t2, t3⟩ := collect_ex (f := oddTerm back xs j) (P := fun k c => ∃ R, RC c R ∧ BC (R - wt back n j k * V k) (5 * uu * m k)) n (by
      intro k hk
      obtain ⟨a1, a2, a3⟩ := hx k hk
      have hw := wy_rc back n h7 (j * k)
      have hmk := hm k hk
      obtain ⟨r, z, g1, g2, g3⟩ := a1.mul hw a2 (th_wb back _) a3 (by unfold tp; grind)
      refine ⟨r, ?_, z, g2, ?_⟩
      · unfold oddTerm; rw [hl]; exact g1
      · rw [cq_comm]; exact g3)
    have t3' : ∀ k, ∃ R, k < n → RC (t.getD k (0, 0)) R ∧ BC (R - wt back n j k * V k) (5 * uu * m k) := by
      intro k
      by_cases hk : k < n
      · obtain ⟨R, h⟩ := t3 k hk; exact ⟨R, fun _ => h⟩
      · exact ⟨0, fun h => absurd h hk⟩
    obtain ⟨T, hT3⟩ := Classical.skolem.1 t3'
    have hTb : ∀ k, k < n → BC (T k) (3 / 2 * m k) := by
      intro k hk
      have h1 := (hT3 k hk).2
      have h2 := BC.mul (th_wb back (j * k * (24 / n))) (hx k hk).2.1
      refine (h1.near h2).mono ?_
      have := hm0 k hk
      have q : uu * m k ≤ 1 / 1000000000000 * m k := by have := mul_le_l hul this; grind
      grind
    have hS2 : rsum n (fun k => 3 / 2 * m k) ≤ 3 / 2 * rsum n m := by rw [rsum_mul]; grind
    obtain ⟨s, s1, R, s2, s3⟩ := csum_near (ts := t) (T := T) (t := fun k => 3 / 2 * m k) (S := 3 / 2 * rsum n m) n (fun k hk => ⟨(hT3 k hk).1, hTb k hk⟩) hS2 (by grind) (by
      have h1 : rsum n m ≤ 1152921504606846976 := hT
      grind) (by omega)
    refine ⟨s, ?_, R, s2, ?_⟩
    · unfold oddOut; rw [hl, t1, Option.bind_some, s1]
    · have h1 : BC (qsum n T - qsum n fun k => wt back n j k * V k) (5 * uu * rsum n m) := by
        rw [← qsum_sub]
        have h2 := BC.sum (n := n) (f := fun k => T k - wt back n j k * V k) (m := fun k => 5 * uu * m k) (fun k hk => (hT3 k hk).2)
        rw [rsum_mul] at h2; exact h2
      refine (s3.tri h1).mono ?_
      have hnr : (n : Rat) ≤ 3 := by
        have := Rat.natCast_le_natCast.2 hn3
        exact this
      have e : 1001 / 1000 * (uu * (3 / 2 * rsum n m)) = 3003 / 2000 * (uu * rsum n m) := by grind
      rw [e]
      have h3 := mul_le_l hnr (show 0 ≤ 3003 / 2000 * (uu * rsum n m) by grind)
      have e2 : 5 * uu * rsum n m = 5 * (uu * rsum n m) := by grind
      have e3 : 10 * uu * rsum n m = 10 * (uu * rsum n m) := by grind
      rw [e2, e3]
      generalize uu * rsum n m = q at *
      grind)
  refine ⟨r, ?_, r2, r3⟩
  unfold lineP
  rw [hl, if_pos (by rcases hn with rfl | rfl <;> rfl), r1]

end Go.Proofs.Ytdeigbbilcjgjaa
