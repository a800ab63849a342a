/-
  Nought stays nought.
-/
import Derived.Test.YtdeigbbilcjgjaaIu
import Derived.Test.YtdeigbbilcjgjaaAx
import Derived.Test.YtdeigbbilcjgjaaEz
namespace Go.Proofs.Ytdeigbbilcjgjaa
set_option exponentiation.threshold 5000
set_option linter.unusedVariables false
set_option linter.unusedSimpArgs false

def Zc (c : C) : Prop := val c.1 = some 0 ∧ val c.2 = some 0
theorem z_mul {a b : Nat} {y : Int} (ha : val a = some 0) (hb : val b = some y) : ∃ r, fMul a b = some r ∧ val r = some 0 := by
  obtain ⟨r, z, h1, h2, _, h3⟩ := mul_val ha hb (by rw [Int.zero_mul]; exact Nat.two_pow_pos _)
  have := h3 0 0 (by rw [Int.zero_mul, Nat.zero_mul]; rfl) (by omega)
  rw [Int.zero_mul] at this
  have hz : z = 0 := by
    have : z * 2 ^ 1074 = 0 * 2 ^ 1074 := by rw [this, Int.zero_mul]
    exact Int.eq_of_mul_eq_mul_right (by decide) this
  exact ⟨r, h1, by rw [h2, hz]⟩
theorem z_mul' {a b : Nat} {y : Int} (ha : val a = some y) (hb : val b = some 0) : ∃ r, fMul a b = some r ∧ val r = some 0 := by
  obtain ⟨r, z, h1, h2, _, h3⟩ := mul_val ha hb (by rw [Int.mul_zero]; exact Nat.two_pow_pos _)
  have := h3 0 0 (by rw [Int.mul_zero, Nat.zero_mul]; rfl) (by omega)
  rw [Int.mul_zero] at this
  have hz : z = 0 := by
    have : z * 2 ^ 1074 = 0 * 2 ^ 1074 := by rw [this, Int.zero_mul]
    exact Int.eq_of_mul_eq_mul_right (by decide) this
  exact ⟨r, h1, by rw [h2, hz]⟩
theorem z_add {a b : Nat} (ha : val a = some 0) (hb : val b = some 0) : ∃ r, fAdd a b = some r ∧ val r = some 0 := by
  obtain ⟨r, z, h1, h2, _, h3⟩ := add_val ha hb (by exact Nat.two_pow_pos _)
  exact ⟨r, h1, by rw [h2, h3 0 0 rfl (by omega)]; rfl⟩
theorem z_sub {a b : Nat} (ha : val a = some 0) (hb : val b = some 0) : ∃ r, fSub a b = some r ∧ val r = some 0 := by
  obtain ⟨r, z, h1, h2, _, h3⟩ := sub_val ha hb (by exact Nat.two_pow_pos _)
  exact ⟨r, h1, by rw [h2, h3 0 0 rfl (by omega)]; rfl⟩
theorem z_div {a b : Nat} {k : Nat} {m : Nat} {j : Int} (ha : val a = some 0) (hb : D.read b = .number false m j) (hm : m ≠ 0) (hj : j ≤ 0) (hm2 : m < 2 ^ 53) : ∃ r, fDiv a b = some r ∧ val r = some 0 := by
  obtain ⟨s, m1, i, h1, h2, h3, hv⟩ := val_sg ha
  have hm1 : m1 = 0 := by
    have := congrArg Int.natAbs hv
    rw [sg_natAbs] at this
    have h0 : m1 * 2 ^ (i + 1074).toNat = 0 := this.symm
    rcases Nat.mul_eq_zero.1 h0 with h | h
    · exact h
    · exact absurd h (Nat.ne_of_gt (Nat.two_pow_pos _))
  subst hm1
  obtain ⟨e, he⟩ : ∃ e : Int, e = i - j - ((54 + m.log2 - (0 : Nat).log2 : Nat) : Int) - 1 := ⟨_, rfl⟩
  have hlm : m.log2 ≤ 52 := by have : m.log2 < 53 := (Nat.log2_lt hm).2 hm2; omega
  have hl0 : (0 : Nat).log2 = 0 := by decide
  have hquo : (D.read a).quotient 54 (D.read b) = some (.number s 0 e) := by
    rw [h1, hb]
    simp only [Ieee.Datum.quotient]
    rw [if_neg hm, Nat.zero_shiftLeft, Nat.zero_div, Nat.zero_mod, ← he]
    cases s <;> rfl
  obtain ⟨z, hz, _, g⟩ := write_val s 0 e (by omega) 0 (by rw [Nat.zero_mul]; split <;> rfl) (Nat.two_pow_pos _)
  have := g 0 0 (by rw [Nat.zero_mul]; rfl) (by omega)
  have hz0 : z = 0 := by
    have : z * 2 ^ 1074 = 0 * 2 ^ 1074 := by rw [this, Int.zero_mul]
    exact Int.eq_of_mul_eq_mul_right (by decide) this
  refine ⟨D.write (.number s 0 e), ?_, by rw [hz, hz0]⟩
  show ((D.read a).quotient 54 (D.read b)).map D.write = _
  rw [hquo]; rfl

theorem Zc.add {a b : C} (ha : Zc a) (hb : Zc b) : ∃ r, cAdd a b = some r ∧ Zc r := by
  obtain ⟨r, r1, r2⟩ := z_add ha.1 hb.1
  obtain ⟨s, s1, s2⟩ := z_add ha.2 hb.2
  exact ⟨(r, s), by unfold fAdd at r1 s1; unfold cAdd cSumBits; rw [r1, s1]; rfl, r2, s2⟩
theorem Zc.sub {a b : C} (ha : Zc a) (hb : Zc b) : ∃ r, cSub a b = some r ∧ Zc r := by
  obtain ⟨r, r1, r2⟩ := z_sub ha.1 hb.1
  obtain ⟨s, s1, s2⟩ := z_sub ha.2 hb.2
  exact ⟨(r, s), by unfold fSub at r1 s1; unfold cSub cSumBits; rw [r1, s1]; rfl, r2, s2⟩
theorem Zc.mul {a w : C} {y : Cq} (ha : Zc a) (hw : RC w y) : ∃ r, cMul a w = some r ∧ Zc r := by
  obtain ⟨⟨z1, w1, _⟩, ⟨z2, w2, _⟩⟩ := hw
  obtain ⟨r1, a1, b1⟩ := z_mul ha.1 w1
  obtain ⟨r2, a2, b2⟩ := z_mul ha.2 w2
  obtain ⟨r3, a3, b3⟩ := z_sub b1 b2
  obtain ⟨r4, a4, b4⟩ := z_mul ha.1 w2
  obtain ⟨r5, a5, b5⟩ := z_mul ha.2 w1
  obtain ⟨r6, a6, b6⟩ := z_add b4 b5
  refine ⟨(r3, r6), ?_, b3, b6⟩
  unfold cMul
  rw [a1, a2, Option.bind_some, Option.bind_some, a3, a4, a5]
  simp only [Option.bind_some, a6]
theorem Zc.mulw {a w : C} {y : Cq} (ha : Zc a) (hw : RC w y) : ∃ r, cMul w a = some r ∧ Zc r := by
  obtain ⟨⟨z1, w1, _⟩, ⟨z2, w2, _⟩⟩ := hw
  obtain ⟨r1, a1, b1⟩ := z_mul' w1 ha.1
  obtain ⟨r2, a2, b2⟩ := z_mul' w2 ha.2
  obtain ⟨r3, a3, b3⟩ := z_sub b1 b2
  obtain ⟨r4, a4, b4⟩ := z_mul' w1 ha.2
  obtain ⟨r5, a5, b5⟩ := z_mul' w2 ha.1
  obtain ⟨r6, a6, b6⟩ := z_add b4 b5
  refine ⟨(r3, r6), ?_, b3, b6⟩
  unfold cMul
  rw [a1, a2, Option.bind_some, Option.bind_some, a3, a4, a5]
  simp only [Option.bind_some, a6]
theorem n7_read {n : Nat} (h7 : N7 n) : ∃ m j, D.read (floatOfInt .f64 n) = .number false m j ∧ m ≠ 0 ∧ j ≤ 0 ∧ m < 2 ^ 53 := by
  have f : ∀ b : Nat, (∃ m j, D.read b = .number false m j ∧ m ≠ 0 ∧ j ≤ 0 ∧ m < 2 ^ 53) ↔ (match D.read b with | .number false m j => decide (m ≠ 0) && decide (j ≤ 0) && decide (m < 2 ^ 53) | _ => false) = true := by
    intro b
    constructor
    · rintro ⟨m, j, h, h1, h2, h3⟩
      rw [h]; simp [h1, h2, h3]
    · intro h
      split at h
      · rename_i m j he
        simp only [Bool.and_eq_true, decide_eq_true_eq] at h
        exact ⟨m, j, he, h.1.1, h.1.2, h.2⟩
      · cases h
  rcases h7 with rfl | rfl | rfl | rfl | rfl | rfl | rfl <;> (rw [f]; decide +kernel)
theorem Zc.div {a : C} {n : Nat} (h7 : N7 n) (ha : Zc a) : ∃ r, divC (floatOfInt .f64 n) a = some r ∧ Zc r := by
  obtain ⟨m, j, h1, h2, h3, h4⟩ := n7_read h7
  obtain ⟨r, r1, r2⟩ := z_div (k := 0) ha.1 h1 h2 h3 h4
  obtain ⟨s, s1, s2⟩ := z_div (k := 0) ha.2 h1 h2 h3 h4
  exact ⟨(r, s), by unfold divC; rw [r1, s1]; rfl, r2, s2⟩

/-- A way that makes noughts of noughts. -/
def Zr (f : List C → Option (List C)) (n : Nat) : Prop := ∀ xs : List C, xs.length = n → (∀ k, k < n → Zc (xs.getD k (0, 0))) → ∃ r, f xs = some r ∧ r.length = n ∧ ∀ j, j < n → Zc (r.getD j (0, 0))

theorem csum_z {ts : List C} (n : Nat) (h : ∀ k, k < n → Zc (ts.getD k (0, 0))) : ∃ r, csumN ts n = some r ∧ Zc r := by
  induction n with
  | zero => exact ⟨(0, 0), rfl, by decide +kernel, by decide +kernel⟩
  | succ n ih =>
    obtain ⟨s, s1, s2⟩ := ih (fun k hk => h k (by omega))
    obtain ⟨r, r1, r2⟩ := s2.add (h n (by omega))
    exact ⟨r, by simp only [csumN, s1, Option.bind_some, r1], r2⟩
theorem zr_odd (f : Nat) (back : Bool) (n : Nat) (hn : n = 1 ∨ n = 3) : Zr (lineP (f + 1) back) n := by
  intro xs hl hx
  have h7 : N7 n := by rcases hn with rfl | rfl <;> simp [N7]
  obtain ⟨r, r1, r2, r3⟩ := collect_ex (f := oddOut back xs) (P := fun j c => Zc c) n (by
    intro j hj
    obtain ⟨t, t1, t2, t3⟩ := collect_ex (f := oddTerm back xs j) (P := fun k c => Zc c) n (by
      intro k hk
      obtain ⟨r, r1, r2⟩ := (hx k hk).mul (wy_rc back n h7 (j * k))
      exact ⟨r, by unfold oddTerm; rw [hl]; exact r1, r2⟩)
    obtain ⟨s, s1, s2⟩ := csum_z n t3
    exact ⟨s, by unfold oddOut; rw [hl, t1, Option.bind_some, s1], s2⟩)
  refine ⟨r, ?_, r2, r3⟩
  unfold lineP
  rw [hl, if_pos (by rcases hn with rfl | rfl <;> rfl), r1]
theorem zr_two (f : Nat) (back : Bool) (n h : Nat) (hn : n = 2 * h) (h7 : N7 n) (hr : Zr (lineP f back) h) : Zr (lineP (f + 1) back) n := by
  intro xs hl hx
  obtain ⟨e, e1, e2, e3⟩ := hr (partN xs 0 h) (by simp [partN]) (fun k hk => by
    have := hx (2 * k) (by omega)
    simpa [partN, hk] using this)
  obtain ⟨o, o1, o2, o3⟩ := hr (partN xs 1 h) (by simp [partN]) (fun k hk => by
    have := hx (2 * k + 1) (by omega)
    simpa [partN, hk, Nat.add_comm] using this)
  have hh : n / 2 = h := by omega
  obtain ⟨a, a1, a2, a3⟩ := collect_ex (f := bfLo back n e o) (P := fun j c => Zc c) h (by
    intro j hj
    obtain ⟨t, t1, t2⟩ := (o3 j hj).mulw (wy_rc back n h7 j)
    obtain ⟨r, r1, r2⟩ := (e3 j hj).add t2
    exact ⟨r, by unfold bfLo bfTurn; rw [t1, Option.bind_some, r1], r2⟩)
  obtain ⟨b, b1, b2, b3⟩ := collect_ex (f := bfHi back n e o) (P := fun j c => Zc c) h (by
    intro j hj
    obtain ⟨t, t1, t2⟩ := (o3 j hj).mulw (wy_rc back n h7 j)
    obtain ⟨r, r1, r2⟩ := (e3 j hj).sub t2
    exact ⟨r, by unfold bfHi bfTurn; rw [t1, Option.bind_some, r1], r2⟩)
  refine ⟨a ++ b, ?_, by rw [List.length_append, a2, b2, hn]; omega, fun j hj => ?_⟩
  · unfold lineP
    rw [hl, if_neg (by omega), hh, e1, Option.bind_some, o1, Option.bind_some, a1, Option.bind_some, b1, Option.bind_some]
  · by_cases hjh : j < h
    · rw [List.getD_eq_getElem?_getD, List.getElem?_append_left (by omega), ← List.getD_eq_getElem?_getD]; exact a3 j hjh
    · rw [List.getD_eq_getElem?_getD, List.getElem?_append_right (by omega), ← List.getD_eq_getElem?_getD, a2]
      exact b3 (j - h) (by omega)
theorem zr_line (back : Bool) (n : Nat) (h7 : N7 n) : Zr (lineP 9 back) n := by
  have r1 : ∀ f, Zr (lineP (f + 1) back) 1 := fun f => zr_odd f back 1 (Or.inl rfl)
  have r3 : ∀ f, Zr (lineP (f + 1) back) 3 := fun f => zr_odd f back 3 (Or.inr rfl)
  have r2 : ∀ f, Zr (lineP (f + 2) back) 2 := fun f => zr_two (f + 1) back 2 1 rfl (by simp [N7]) (r1 f)
  have r6 : ∀ f, Zr (lineP (f + 2) back) 6 := fun f => zr_two (f + 1) back 6 3 rfl (by simp [N7]) (r3 f)
  have r4 : ∀ f, Zr (lineP (f + 3) back) 4 := fun f => zr_two (f + 2) back 4 2 rfl (by simp [N7]) (r2 f)
  have r12 : ∀ f, Zr (lineP (f + 3) back) 12 := fun f => zr_two (f + 2) back 12 6 rfl (by simp [N7]) (r6 f)
  have r8 : ∀ f, Zr (lineP (f + 4) back) 8 := fun f => zr_two (f + 3) back 8 4 rfl (by simp [N7]) (r4 f)
  rcases h7 with rfl | rfl | rfl | rfl | rfl | rfl | rfl
  · exact r1 8
  · exact r2 7
  · exact r3 8
  · exact r4 6
  · exact r6 7
  · exact r8 5
  · exact r12 6
theorem zr_undone (n : Nat) (h7 : N7 n) : Zr undoneP n := by
  intro xs hl hx
  obtain ⟨r, r1, r2, r3⟩ := zr_line true n h7 xs hl hx
  obtain ⟨l, l1, l2, l3⟩ := collect_ex (f := fun i => divC (floatOfInt .f64 r.length) (r.getD i (0, 0))) (P := fun j c => Zc c) n (fun j hj => by
    rw [r2]; exact (r3 j hj).div h7)
  refine ⟨l, ?_, l2, l3⟩
  unfold undoneP
  rw [r1, Option.bind_some, r2, ← r2, ← l1, r2]
theorem box_z {f : List C → Option (List C)} {n0 n1 n2 : Nat} (p0 : 0 < n0) (p1 : 0 < n1) (p2 : 0 < n2) (r2 : Zr f n2) (r1 : Zr f n1) (r0 : Zr f n0) (xs : List C) (hL : xs.length = n0 * n1 * n2)
    (hF : ∀ x y z, x < n0 → y < n1 → z < n2 → Zc (at3 n1 n2 xs x y z)) : ∃ ys, boxP f n0 n1 n2 xs = some ys ∧ ys.length = n0 * n1 * n2 ∧ ∀ x y z, x < n0 → y < n1 → z < n2 → Zc (at3 n1 n2 ys x y z) := by
  have g2 : ∀ x y, ∃ r, x < n0 → y < n1 → f ((List.range n2).map fun z => at3 n1 n2 xs x y z) = some r ∧ ∀ z, z < n2 → Zc (r.getD z (0, 0)) := by
    intro x y
    by_cases h : x < n0 ∧ y < n1
    · obtain ⟨r, a, b, c⟩ := r2 ((List.range n2).map fun z => at3 n1 n2 xs x y z) (by simp) (fun k hk => by
        have := hF x y k h.1 h.2 hk
        simpa [hk] using this)
      exact ⟨r, fun _ _ => ⟨a, c⟩⟩
    · exact ⟨[], fun h1 h2 => absurd ⟨h1, h2⟩ h⟩
  obtain ⟨R2, h2⟩ := Classical.skolem.1 (fun x => Classical.skolem.1 (g2 x))
  obtain ⟨ya, a1, a2, a3⟩ := along_2 (f := f) (n0 := n0) p1 p2 hL R2 (fun x y hx hy => (h2 x y hx hy).1)
  have ha : ∀ x y z, x < n0 → y < n1 → z < n2 → Zc (at3 n1 n2 ya x y z) := fun x y z hx hy hz => by rw [a3 x y z hx hy hz]; exact (h2 x y hx hy).2 z hz
  rw [hL] at a2
  have g1 : ∀ x z, ∃ r, x < n0 → z < n2 → f ((List.range n1).map fun y => at3 n1 n2 ya x y z) = some r ∧ ∀ y, y < n1 → Zc (r.getD y (0, 0)) := by
    intro x z
    by_cases h : x < n0 ∧ z < n2
    · obtain ⟨r, a, b, c⟩ := r1 ((List.range n1).map fun y => at3 n1 n2 ya x y z) (by simp) (fun k hk => by
        have := ha x k z h.1 hk h.2
        simpa [hk] using this)
      exact ⟨r, fun _ _ => ⟨a, c⟩⟩
    · exact ⟨[], fun h1 h2 => absurd ⟨h1, h2⟩ h⟩
  obtain ⟨R1, h1⟩ := Classical.skolem.1 (fun x => Classical.skolem.1 (g1 x))
  obtain ⟨yb, b1, b2, b3⟩ := along_1 (f := f) (n0 := n0) p1 p2 a2 R1 (fun x z hx hz => (h1 x z hx hz).1)
  have hb : ∀ x y z, x < n0 → y < n1 → z < n2 → Zc (at3 n1 n2 yb x y z) := fun x y z hx hy hz => by rw [b3 x y z hx hy hz]; exact (h1 x z hx hz).2 y hy
  rw [a2] at b2
  have g0 : ∀ y z, ∃ r, y < n1 → z < n2 → f ((List.range n0).map fun x => at3 n1 n2 yb x y z) = some r ∧ ∀ x, x < n0 → Zc (r.getD x (0, 0)) := by
    intro y z
    by_cases h : y < n1 ∧ z < n2
    · obtain ⟨r, a, b, c⟩ := r0 ((List.range n0).map fun x => at3 n1 n2 yb x y z) (by simp) (fun k hk => by
        have := hb k y z hk h.1 h.2
        simpa [hk] using this)
      exact ⟨r, fun _ _ => ⟨a, c⟩⟩
    · exact ⟨[], fun h1 h2 => absurd ⟨h1, h2⟩ h⟩
  obtain ⟨R0, h0⟩ := Classical.skolem.1 (fun y => Classical.skolem.1 (g0 y))
  obtain ⟨yc, c1, c2, c3⟩ := along_0 (f := f) (n0 := n0) p0 p1 p2 b2 R0 (fun y z hy hz => (h0 y z hy hz).1)
  refine ⟨yc, ?_, by rw [c2, b2], fun x y z hx hy hz => by rw [c3 x y z hx hy hz]; exact (h0 y z hy hz).2 x hx⟩
  unfold boxP
  rw [a1, Option.bind_some, b1, Option.bind_some, c1]

end Go.Proofs.Ytdeigbbilcjgjaa
