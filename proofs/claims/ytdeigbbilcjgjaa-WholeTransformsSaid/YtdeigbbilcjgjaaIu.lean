/-
  The butterflies' rounding; the lines of 1, 2, 3, 4, 6, 8, 12 numbers.
-/
import Derived.Test.YtdeigbbilcjgjaaIt
namespace Go.Proofs.Ytdeigbbilcjgjaa
set_option exponentiation.threshold 5000
set_option linter.unusedVariables false
set_option linter.unusedSimpArgs false

theorem wt_even (back : Bool) (n h : Nat) (hn : n = 2 * h) (hd : 24 / h = 2 * (24 / n)) (j k : Nat) : wt back n j (2 * k) = wt back h j k := by
  unfold wt
  rw [hd]
  congr 1
  simp only [Nat.mul_assoc, Nat.mul_left_comm]
theorem wt_even' (back : Bool) (n h : Nat) (hn : n = 2 * h) (hd : 24 / h = 2 * (24 / n)) (h24 : n * (24 / n) = 24) (j k : Nat) : wt back n (j + h) (2 * k) = wt back h j k := by
  rw [← wt_even back n h hn hd j k]
  unfold wt
  have e : (j + h) * (2 * k) * (24 / n) = j * (2 * k) * (24 / n) + 24 * k := by
    have h2 : h * (2 * k) * (24 / n) = 24 * k := by
      have h3 : h * (2 * k) * (24 / n) = 2 * h * (24 / n) * k := by simp only [Nat.mul_assoc, Nat.mul_left_comm, Nat.mul_comm]
      rw [h3, ← hn, h24]
    rw [Nat.add_mul, Nat.add_mul, h2]
  rw [e, th_add]
theorem wt_odd (back : Bool) (n h : Nat) (hn : n = 2 * h) (hd : 24 / h = 2 * (24 / n)) (j k : Nat) : BC (th back (j * (24 / n)) * wt back h j k - wt back n j (2 * k + 1)) (2 * uu) := by
  have e : j * (2 * k + 1) * (24 / n) = j * (24 / n) + j * k * (24 / h) := by
    rw [hd, Nat.mul_add, Nat.mul_one, Nat.add_mul, Nat.add_comm]
    congr 1
    simp only [Nat.mul_assoc, Nat.mul_left_comm]
  unfold wt
  rw [e]; exact th_mul back _ _
theorem wt_odd' (back : Bool) (n h : Nat) (hn : n = 2 * h) (h24 : n * (24 / n) = 24) (j k : Nat) : wt back n (j + h) (2 * k + 1) = -(wt back n j (2 * k + 1)) := by
  unfold wt
  have h12 : h * (24 / n) = 12 := by
    have : 2 * (h * (24 / n)) = 24 := by rw [← Nat.mul_assoc, ← hn, h24]
    omega
  have e : (j + h) * (2 * k + 1) * (24 / n) = j * (2 * k + 1) * (24 / n) + 12 + 24 * k := by
    have : h * (2 * k + 1) * (24 / n) = 12 * (2 * k + 1) := by rw [Nat.mul_right_comm, h12]
    rw [Nat.add_mul, Nat.add_mul, this]; omega
  rw [e, th_add, th_half]

/-- One butterfly. -/
theorem rr_two (f : Nat) (back : Bool) (n h : Nat) (hn : n = 2 * h) (h0 : 0 < h) (h7 : N7 n) (hd : 24 / h = 2 * (24 / n)) (K : Rat) (hK0 : 0 ≤ K) (hK : K ≤ 100) (hr : Rr (lineP f back) h (wt back h) K) :
    Rr (lineP (f + 1) back) n (wt back n) (71 / 50 * K + 14) := by
  intro xs V m hl hx hT
  have h24 := h7.div.1
  have hu := uu_pos
  have hul := uu_le
  have hdl := dl_pos
  have hm0 : ∀ k, k < n → 0 ≤ m k := fun k hk => by have := (hx k hk).2.2; grind
  have hsp : rsum n m = rsum h (fun k => m (2 * k)) + rsum h (fun k => m (2 * k + 1)) := by rw [hn, rsum_halves]
  have hE0 := rsum_ge (n := h) (f := fun k => m (2 * k)) (fun k hk => hm0 _ (by omega)) 0 h0
  have hO0 := rsum_ge (n := h) (f := fun k => m (2 * k + 1)) (fun k hk => hm0 _ (by omega)) 0 h0
  have hmE := (hx (2 * 0) (by omega)).2.2
  have hmO := (hx (2 * 0 + 1) (by omega)).2.2
  obtain ⟨SE, hSE⟩ : ∃ SE, SE = rsum h (fun k => m (2 * k)) := ⟨_, rfl⟩
  obtain ⟨SO, hSO⟩ : ∃ SO, SO = rsum h (fun k => m (2 * k + 1)) := ⟨_, rfl⟩
  rw [← hSE] at hsp hE0
  rw [← hSO] at hsp hO0
  have hSEd : dl ≤ SE := by grind
  have hSOd : dl ≤ SO := by grind
  have hSE0 : 0 ≤ SE := by grind
  have hSO0 : 0 ≤ SO := by grind
  rw [hsp] at hT
  obtain ⟨e, e1, e2, e3⟩ := hr (partN xs 0 h) (fun k => V (2 * k)) (fun k => m (2 * k)) (by simp [partN]) (fun k hk => by
    have := hx (2 * k) (by omega)
    simpa [partN, hk] using this) (by rw [← hSE]; grind)
  obtain ⟨o, o1, o2, o3⟩ := hr (partN xs 1 h) (fun k => V (2 * k + 1)) (fun k => m (2 * k + 1)) (by simp [partN]) (fun k hk => by
    have := hx (2 * k + 1) (by omega)
    simpa [partN, hk, Nat.add_comm] using this) (by rw [← hSO]; grind)
  rw [← hSE] at e3
  rw [← hSO] at o3
  have hh : n / 2 = h := by omega
  -- sizes
  have pE : 0 ≤ uu * SE := Rat.mul_nonneg (by grind) hSE0
  have pO : 0 ≤ uu * SO := Rat.mul_nonneg (by grind) hSO0
  have qE : uu * SE ≤ 1 / 1000000000000 * SE := by have := mul_le_l hul hSE0; grind
  have qO : uu * SO ≤ 1 / 1000000000000 * SO := by have := mul_le_l hul hSO0; grind
  have kE : K * (uu * SE) ≤ 100 * (uu * SE) := by have := mul_le_l hK pE; grind
  have kO : K * (uu * SO) ≤ 100 * (uu * SO) := by have := mul_le_l hK pO; grind
  have kE0 : 0 ≤ K * (uu * SE) := Rat.mul_nonneg hK0 pE
  have kO0 : 0 ≤ K * (uu * SO) := Rat.mul_nonneg hK0 pO
  have aE : K * uu * SE = K * (uu * SE) := by grind
  have aO : K * uu * SO = K * (uu * SO) := by grind
  rw [aE] at e3
  rw [aO] at o3
  have vE : ∀ j, BC (qsum h fun k => wt back h j k * V (2 * k)) (71 / 50 * SE) := by
    intro j
    rw [hSE, ← rsum_mul]
    have hb : ∀ k, k < h → BC (V (2 * k)) (m (2 * k)) := fun k hk => (hx (2 * k) (by omega)).2.1
    exact BC.sum (n := h) fun k hk => BC.mul (th_wb back _) (hb k hk)
  have vO : ∀ j, BC (qsum h fun k => wt back h j k * V (2 * k + 1)) (71 / 50 * SO) := by
    intro j
    rw [hSO, ← rsum_mul]
    have hb : ∀ k, k < h → BC (V (2 * k + 1)) (m (2 * k + 1)) := fun k hk => (hx (2 * k + 1) (by omega)).2.1
    exact BC.sum (n := h) fun k hk => BC.mul (th_wb back _) (hb k hk)
  -- the odd half, turned
  have turned : ∀ j, j < h → ∃ t, bfTurn back n o j = some t ∧ ∃ Tn, RC t Tn ∧ BC (Tn - qsum h fun k => wt back n j (2 * k + 1) * V (2 * k + 1)) (71 / 50 * (K * (uu * SO)) + 23 / 2 * (uu * SO)) ∧ BC Tn (204 / 100 * SO) := by
    intro j hj
    obtain ⟨R, g1, g2⟩ := o3 j hj
    have gb : BC R (143 / 100 * SO) := (g2.near (vO j)).mono (by grind)
    obtain ⟨t, Tn, t1, t2, t3⟩ := RC.mulw (wy_rc back n h7 j) g1 gb (th_wb back _) (by grind) (by unfold tp; grind)
    have s1 : BC (th back (j * (24 / n)) * R - th back (j * (24 / n)) * qsum h fun k => wt back h j k * V (2 * k + 1)) (71 / 50 * (K * (uu * SO))) := by
      have := BC.mul (th_wb back (j * (24 / n))) g2
      have e : ∀ a b c : Cq, a * (b - c) = a * b - a * c := fun a b c => by (refine Cq.ext' ?_ ?_ <;> simp only [Cq.sub_re, Cq.sub_im, Cq.mul_re, Cq.mul_im] <;> grind)
      rw [e] at this; exact this
    have s2 : BC (th back (j * (24 / n)) * (qsum h fun k => wt back h j k * V (2 * k + 1)) - qsum h fun k => wt back n j (2 * k + 1) * V (2 * k + 1)) (4 * (uu * SO)) := by
      rw [← qsum_mul, ← qsum_sub]
      have hb : ∀ k, k < h → BC (V (2 * k + 1)) (m (2 * k + 1)) := fun k hk => (hx (2 * k + 1) (by omega)).2.1
      have := BC.sum (n := h) (f := fun k => th back (j * (24 / n)) * (wt back h j k * V (2 * k + 1)) - wt back n j (2 * k + 1) * V (2 * k + 1)) (m := fun k => 2 * (2 * uu) * m (2 * k + 1)) (fun k hk => by
        have h1 := BC.mul (WB.of (wt_odd back n h hn hd j k)) (hb k hk)
        have e : (th back (j * (24 / n)) * wt back h j k - wt back n j (2 * k + 1)) * V (2 * k + 1) = th back (j * (24 / n)) * (wt back h j k * V (2 * k + 1)) - wt back n j (2 * k + 1) * V (2 * k + 1) := by
          (refine Cq.ext' ?_ ?_ <;> simp only [Cq.sub_re, Cq.sub_im, Cq.mul_re, Cq.mul_im] <;> grind)
        rw [e] at h1; exact h1)
      rw [rsum_mul, ← hSO] at this
      exact this.mono (by grind)
    have s3 := (t3.tri s1).tri s2
    refine ⟨t, t1, Tn, t2, s3.mono ?_, ?_⟩
    · have : 5 * uu * (143 / 100 * SO) = 715 / 100 * (uu * SO) := by grind
      rw [this]; grind
    · refine (t3.near (BC.mul (th_wb back _) gb)).mono ?_
      have : 5 * uu * (143 / 100 * SO) = 715 / 100 * (uu * SO) := by grind
      rw [this]; grind
  have hbE : ∀ j, j < h → ∃ R, RC (e.getD j (0, 0)) R ∧ BC (R - qsum h fun k => wt back h j k * V (2 * k)) (K * (uu * SE)) ∧ BC R (143 / 100 * SE) := by
    intro j hj
    obtain ⟨R, g1, g2⟩ := e3 j hj
    exact ⟨R, g1, g2, (g2.near (vE j)).mono (by grind)⟩
  have fin : K * (uu * SE) + (71 / 50 * (K * (uu * SO)) + 23 / 2 * (uu * SO)) + uu * (204 / 100 * (SE + SO)) ≤ (71 / 50 * K + 14) * uu * (SE + SO) - 40 / 100 * (uu * SO) := by
    have e1 : (71 / 50 * K + 14) * uu * (SE + SO) = 71 / 50 * (K * (uu * SE)) + 71 / 50 * (K * (uu * SO)) + 14 * (uu * SE) + 14 * (uu * SO) := by grind
    have e2 : uu * (204 / 100 * (SE + SO)) = 204 / 100 * (uu * SE) + 204 / 100 * (uu * SO) := by grind
    rw [e1, e2]
    generalize K * (uu * SE) = a at *
    generalize K * (uu * SO) = b at *
    generalize uu * SE = c at *
    generalize uu * SO = d at *
    grind
  obtain ⟨a, a1, a2, a3⟩ := collect_ex (f := bfLo back n e o) (P := fun j c => ∃ R, RC c R ∧ BC (R - qsum n fun k => wt back n j k * V k) ((71 / 50 * K + 14) * uu * (SE + SO))) h (by
    intro j hj
    obtain ⟨t, t1, Tn, t2, t3, t4⟩ := turned j hj
    obtain ⟨R, g1, g2, g3⟩ := hbE j hj
    obtain ⟨r, z, r1, r2, r3⟩ := g1.add t2 ((g3.add t4).mono (b := 204 / 100 * (SE + SO)) (by grind)) (by grind) (by unfold tp; grind)
    refine ⟨r, by unfold bfLo; rw [t1, Option.bind_some, r1], z, r2, ?_⟩
    have hY : (qsum n fun k => wt back n j k * V k) = (qsum h fun k => wt back h j k * V (2 * k)) + qsum h fun k => wt back n j (2 * k + 1) * V (2 * k + 1) := by
      rw [hn, qsum_halves, ← hn]
      congr 1
      exact qsum_congr fun k _ => by rw [wt_even back n h hn hd]
    rw [hY]
    have s := g2.add t3
    have ee : ∀ p q r s : Cq, p - q + (r - s) = p + r - (q + s) := fun p q r s => by (refine Cq.ext' ?_ ?_ <;> simp only [Cq.add_re, Cq.add_im, Cq.sub_re, Cq.sub_im] <;> grind)
    rw [ee] at s
    refine (r3.tri s).mono ?_
    have : 0 ≤ 40 / 100 * (uu * SO) := by grind
    grind)
  obtain ⟨b, b1, b2, b3⟩ := collect_ex (f := bfHi back n e o) (P := fun j c => ∃ R, RC c R ∧ BC (R - qsum n fun k => wt back n (j + h) k * V k) ((71 / 50 * K + 14) * uu * (SE + SO))) h (by
    intro j hj
    obtain ⟨t, t1, Tn, t2, t3, t4⟩ := turned j hj
    obtain ⟨R, g1, g2, g3⟩ := hbE j hj
    obtain ⟨r, z, r1, r2, r3⟩ := g1.sub t2 ((g3.sub t4).mono (b := 204 / 100 * (SE + SO)) (by grind)) (by grind) (by unfold tp; grind)
    refine ⟨r, by unfold bfHi; rw [t1, Option.bind_some, r1], z, r2, ?_⟩
    have hY : (qsum n fun k => wt back n (j + h) k * V k) = (qsum h fun k => wt back h j k * V (2 * k)) - qsum h fun k => wt back n j (2 * k + 1) * V (2 * k + 1) := by
      rw [hn, qsum_halves, ← hn]
      have e1 : (qsum h fun k => wt back n (j + h) (2 * k) * V (2 * k)) = qsum h fun k => wt back h j k * V (2 * k) := qsum_congr fun k _ => by rw [wt_even' back n h hn hd h24]
      have e2 : (qsum h fun k => wt back n (j + h) (2 * k + 1) * V (2 * k + 1)) = 0 - qsum h fun k => wt back n j (2 * k + 1) * V (2 * k + 1) := by
        rw [← qsum_zero h, ← qsum_sub]
        exact qsum_congr fun k _ => by
          rw [wt_odd' back n h hn h24]
          (refine Cq.ext' ?_ ?_ <;> simp only [Cq.sub_re, Cq.sub_im, Cq.neg_re, Cq.neg_im, Cq.mul_re, Cq.mul_im, Cq.zero_re, Cq.zero_im] <;> grind)
      rw [e1, e2]
      (refine Cq.ext' ?_ ?_ <;> simp only [Cq.sub_re, Cq.sub_im, Cq.add_re, Cq.add_im, Cq.zero_re, Cq.zero_im] <;> grind)
    rw [hY]
    have s := g2.sub t3
    have ee : ∀ p q r s : Cq, p - q - (r - s) = p - r - (q - s) := fun p q r s => by (refine Cq.ext' ?_ ?_ <;> simp only [Cq.add_re, Cq.add_im, Cq.sub_re, Cq.sub_im] <;> grind)
    rw [ee] at s
    refine (r3.tri s).mono ?_
    have : 0 ≤ 40 / 100 * (uu * SO) := by grind
    grind)
  refine ⟨a ++ b, ?_, by rw [List.length_append, a2, b2, hn]; omega, fun j hj => ?_⟩
  · unfold lineP
    rw [hl, if_neg (by omega), hh, e1, Option.bind_some, o1, Option.bind_some, a1, Option.bind_some, b1, Option.bind_some]
  · rw [hsp]
    by_cases hjh : j < h
    · rw [List.getD_eq_getElem?_getD, List.getElem?_append_left (by omega), ← List.getD_eq_getElem?_getD]; exact a3 j hjh
    · rw [List.getD_eq_getElem?_getD, List.getElem?_append_right (by omega), ← List.getD_eq_getElem?_getD, a2]
      have := b3 (j - h) (by omega)
      rw [Nat.sub_add_cancel (by omega)] at this
      exact this

theorem Rr.mono {f : List C → Option (List C)} {n : Nat} {W : Nat → Nat → Cq} {K K' : Rat} (h : Rr f n W K) (hK : K ≤ K') : Rr f n W K' := by
  intro xs V m hl hx hT
  obtain ⟨r, r1, r2, r3⟩ := h xs V m hl hx hT
  refine ⟨r, r1, r2, fun j hj => ?_⟩
  obtain ⟨R, h1, h2⟩ := r3 j hj
  refine ⟨R, h1, h2.mono ?_⟩
  have h0 : 0 ≤ rsum n m := rsum_nonneg fun k hk => (hx k hk).2.1.nonneg
  have h1 : 0 ≤ uu * rsum n m := Rat.mul_nonneg (by have := uu_pos; grind) h0
  have := mul_le_l hK h1
  grind

/-- Every line. -/
theorem rr_line (back : Bool) (n : Nat) (h7 : N7 n) : Rr (lineP 9 back) n (wt back n) 94 := by
  have r1 : ∀ f, Rr (lineP (f + 1) back) 1 (wt back 1) 10 := fun f => rr_odd f back 1 (Or.inl rfl)
  have r3 : ∀ f, Rr (lineP (f + 1) back) 3 (wt back 3) 10 := fun f => rr_odd f back 3 (Or.inr rfl)
  have r2 : ∀ f, Rr (lineP (f + 2) back) 2 (wt back 2) 29 := fun f => (rr_two (f + 1) back 2 1 rfl (by omega) (by simp [N7]) rfl 10 (by grind) (by grind) (r1 f)).mono (by grind)
  have r6 : ∀ f, Rr (lineP (f + 2) back) 6 (wt back 6) 29 := fun f => (rr_two (f + 1) back 6 3 rfl (by omega) (by simp [N7]) rfl 10 (by grind) (by grind) (r3 f)).mono (by grind)
  have r4 : ∀ f, Rr (lineP (f + 3) back) 4 (wt back 4) 56 := fun f => (rr_two (f + 2) back 4 2 rfl (by omega) (by simp [N7]) rfl 29 (by grind) (by grind) (r2 f)).mono (by grind)
  have r12 : ∀ f, Rr (lineP (f + 3) back) 12 (wt back 12) 56 := fun f => (rr_two (f + 2) back 12 6 rfl (by omega) (by simp [N7]) rfl 29 (by grind) (by grind) (r6 f)).mono (by grind)
  have r8 : ∀ f, Rr (lineP (f + 4) back) 8 (wt back 8) 94 := fun f => (rr_two (f + 3) back 8 4 rfl (by omega) (by simp [N7]) rfl 56 (by grind) (by grind) (r4 f)).mono (by grind)
  rcases h7 with rfl | rfl | rfl | rfl | rfl | rfl | rfl
  · exact (r1 8).mono (by grind)
  · exact (r2 7).mono (by grind)
  · exact (r3 8).mono (by grind)
  · exact (r4 6).mono (by grind)
  · exact (r6 7).mono (by grind)
  · exact (r8 5).mono (by grind)
  · exact (r12 6).mono (by grind)

end Go.Proofs.Ytdeigbbilcjgjaa
