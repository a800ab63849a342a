/-
  THE PLAIN LAW of FftExactly.
-/
import Derived.Test.YtdeigbbilcjgjaaEz
namespace Go.Proofs.Ytdeigbbilcjgjaa
set_option exponentiation.threshold 5000
set_option linter.unusedVariables false
set_option linter.unusedSimpArgs false

theorem ssum_split (a b : Nat) (f : Nat → Cx) : ssum (a * b) f = ssum a fun i => ssum b fun j => f (i * b + j) := by
  have app : ∀ n m, ssum (n + m) f = ssum n f + ssum m fun j => f (n + j) := by
    intro n m
    induction m with
    | zero => simp only [ssum, Nat.add_zero]; (refine Cx.ext' ?_ ?_ <;> simp only [Cx.add_re, Cx.add_im, Cx.sub_re, Cx.sub_im, Cx.neg_re, Cx.neg_im, Cx.mul_re, Cx.mul_im, Cx.zero_re, Cx.zero_im, Cx.one_re, Cx.one_im] <;> grind)
    | succ m ih => rw [← Nat.add_assoc]; simp only [ssum]; rw [ih]; (refine Cx.ext' ?_ ?_ <;> simp only [Cx.add_re, Cx.add_im, Cx.sub_re, Cx.sub_im, Cx.neg_re, Cx.neg_im, Cx.mul_re, Cx.mul_im, Cx.zero_re, Cx.zero_im, Cx.one_re, Cx.one_im] <;> grind)
  induction a with
  | zero => rw [Nat.zero_mul]; rfl
  | succ a ih => rw [Nat.add_mul, Nat.one_mul, app, ih]; rfl

/-- The turn of a place. -/
def dirM (n0 n1 n2 h0 h1 h2 x y z : Nat) : Nat := h0 * x * (4 / n0) + h1 * y * (4 / n1) + h2 * z * (4 / n2)

theorem n4_192 {n : Nat} (hn : N4 n) : 192 / n = 48 * (4 / n) := by rcases hn with rfl | rfl | rfl <;> rfl
theorem dirJ_eq {n0 n1 n2 : Nat} (a0 : N4 n0) (a1 : N4 n1) (a2 : N4 n2) (h0 h1 h2 x y z : Nat) : dirJ h0 h1 h2 n0 n1 n2 x y z = ((48 * dirM n0 n1 n2 h0 h1 h2 x y z : Nat) : Int) := by
  unfold dirJ dirM
  rw [n4_192 a0, n4_192 a1, n4_192 a2]
  push_cast
  generalize ((4 / n0 : Nat) : Int) = p
  generalize ((4 / n1 : Nat) : Int) = q
  generalize ((4 / n2 : Nat) : Int) = r
  grind

theorem wy_192 (m : Nat) : WV (wy false ((48 * m : Nat) : Int) 192) (w4 false m) := by
  have e : wy false ((48 * m : Nat) : Int) 192 = tw (48 * (m % 4)) := by
    have e1 : (((48 * m : Nat) : Int) % ((192 : Nat) : Int)).toNat = 48 * (m % 4) := by omega
    show tw ((((48 * m : Nat) : Int) % ((192 : Nat) : Int)).toNat * (192 / 192)) = _
    rw [e1, show 192 / 192 = 1 from rfl, Nat.mul_one]
  rw [e, w4_mod]
  have h : m % 4 < 4 := Nat.mod_lt _ (by omega)
  generalize m % 4 = q at h ⊢
  rcases (by omega : q = 0 ∨ q = 1 ∨ q = 2 ∨ q = 3) with rfl | rfl | rfl | rfl
  · exact tw_0
  · exact tw_1
  · exact tw_2
  · exact tw_3

theorem direct_ex {n0 n1 n2 u B : Nat} (a0 : N4 n0) (a1 : N4 n1) (a2 : N4 n2) (hu : u ≤ 1100) (hB : n0 * n1 * n2 * B < 2 ^ 53) (hB1 : B < 2 ^ 53) (xs : List C) (F : Nat → Nat → Nat → Cx)
    (hF : ∀ x y z, x < n0 → y < n1 → z < n2 → EZ u B (at3 n1 n2 xs x y z) (F x y z)) (h0 h1 h2 : Nat) :
    ∃ r, directP h0 h1 h2 n0 n1 n2 xs = some r ∧ EZ u (n0 * n1 * n2 * B) r (tr0 n0 (wz false n0) (tr1 n1 (wz false n1) (tr2 n2 (wz false n2) F)) h0 h1 h2) := by
  have p1 : 0 < n1 := by rcases a1 with rfl | rfl | rfl <;> decide
  have p2 : 0 < n2 := by rcases a2 with rfl | rfl | rfl <;> decide
  obtain ⟨ts, t1, t2, t3⟩ := collect_ex (f := dirTerm h0 h1 h2 n0 n1 n2 xs) (P := fun p c => EZ u B c (F (p / n2 / n1) (p / n2 % n1) (p % n2) * w4 false (dirM n0 n1 n2 h0 h1 h2 (p / n2 / n1) (p / n2 % n1) (p % n2)))) (n0 * n1 * n2) (by
    intro p hp
    have hx : p / n2 / n1 < n0 := by
      rw [Nat.div_div_eq_div_mul]; exact Nat.div_lt_of_lt_mul (by rw [Nat.mul_comm n2 n1, Nat.mul_comm (n1 * n2), ← Nat.mul_assoc]; exact hp)
    have hg := hF _ _ _ hx (Nat.mod_lt (p / n2) p1) (Nat.mod_lt p p2)
    have e : (p / n2 / n1 * n1 + p / n2 % n1) * n2 + p % n2 = p := by
      have h1 := Nat.div_add_mod (p / n2) n1
      have h2 := Nat.div_add_mod p n2
      rw [Nat.mul_comm (p / n2 / n1), h1, Nat.mul_comm]; exact h2
    unfold at3 at hg
    rw [e] at hg
    unfold dirTerm
    rw [dirJ_eq a0 a1 a2]
    exact hg.mulR (wy_192 _) (w4_U false _) hu hB1)
  obtain ⟨r, r1, r2⟩ := csum_ex hu (n0 * n1 * n2) t3 hB
  refine ⟨r, by unfold directP; rw [t1, Option.bind_some, r1], ?_⟩
  have e : ssum (n0 * n1 * n2) (fun p => F (p / n2 / n1) (p / n2 % n1) (p % n2) * w4 false (dirM n0 n1 n2 h0 h1 h2 (p / n2 / n1) (p / n2 % n1) (p % n2))) =
      tr0 n0 (wz false n0) (tr1 n1 (wz false n1) (tr2 n2 (wz false n2) F)) h0 h1 h2 := by
    rw [ssum_split, ssum_split]
    simp only [tr0, tr1, tr2, ← ssum_mul]
    refine ssum_congr fun x hx => ssum_congr fun y hy => ssum_congr fun z hz => ?_
    rw [pl_q _ _ _ _ _ hz, pl_z _ _ _ _ _ hz, pl_x _ _ _ hy, pl_y _ _ _ hy]
    unfold dirM wz
    rw [w4_add, w4_add]
    (refine Cx.ext' ?_ ?_ <;> simp only [Cx.add_re, Cx.add_im, Cx.sub_re, Cx.sub_im, Cx.neg_re, Cx.neg_im, Cx.mul_re, Cx.mul_im, Cx.zero_re, Cx.zero_im, Cx.one_re, Cx.one_im] <;> grind)
  rw [← e]; exact r2

/-- The numbers that the law makes of the words. -/
def wholeF (n1 n2 : Nat) (vs : List (Int × Int)) (x y z : Nat) : Cx := if (x * n1 + y) * n2 + z < vs.length then ⟨(vs.getD ((x * n1 + y) * n2 + z) (0, 0)).1, (vs.getD ((x * n1 + y) * n2 + z) (0, 0)).2⟩ else 0

theorem whole_ex (n0 n1 n2 : Nat) (vs : List (Int × Int)) (hv : ∀ i, i < vs.length → (vs.getD i (0, 0)).1.natAbs ≤ 32768 ∧ (vs.getD i (0, 0)).2.natAbs ≤ 32768) :
    ∀ x y z, x < n0 → y < n1 → z < n2 → EZ 1074 32768 (at3 n1 n2 (wholeP (n0 * n1 * n2) vs) x y z) (wholeF n1 n2 vs x y z) := by
  intro x y z hx hy hz
  have hp := place3_lt n0 n1 n2 x y z hx hy hz
  unfold at3 wholeP wholeF
  generalize (x * n1 + y) * n2 + z = p at hp
  have e : ((List.range (n0 * n1 * n2)).map (wholeAt vs)).getD p (0, 0) = wholeAt vs p := by simp [hp]
  rw [e]
  unfold wholeAt
  by_cases h : p < vs.length
  · rw [if_pos h, if_pos h]
    obtain ⟨h1, h2⟩ := hv p h
    exact ⟨⟨ofInt_val _ (by omega), ofInt_val _ (by omega)⟩, h1, h2⟩
  · rw [if_neg h, if_neg h]
    exact (EZ.zero 1074).mono (by omega)

theorem exact_law {n0 n1 n2 : Nat} (a0 : N4 n0) (a1 : N4 n1) (a2 : N4 n2) (vs : List (Int × Int)) (hv : ∀ i, i < vs.length → (vs.getD i (0, 0)).1.natAbs ≤ 32768 ∧ (vs.getD i (0, 0)).2.natAbs ≤ 32768) :
    ∃ va vb vc vd, Exact n0 n1 n2 (n0 * n1 * n2) (wholeP (n0 * n1 * n2) vs) va vb vc vd := by
  have p0 : 0 < n0 := by rcases a0 with rfl | rfl | rfl <;> decide
  have p1 : 0 < n1 := by rcases a1 with rfl | rfl | rfl <;> decide
  have p2 : 0 < n2 := by rcases a2 with rfl | rfl | rfl <;> decide
  have q0 : n0 ≤ 4 := by rcases a0 with rfl | rfl | rfl <;> decide
  have q1 : n1 ≤ 4 := by rcases a1 with rfl | rfl | rfl <;> decide
  have q2 : n2 ≤ 4 := by rcases a2 with rfl | rfl | rfl <;> decide
  have hF := whole_ex n0 n1 n2 vs hv
  have hl : (wholeP (n0 * n1 * n2) vs).length = n0 * n1 * n2 := wholeP_length _ _
  generalize wholeP (n0 * n1 * n2) vs = g at hF hl ⊢
  generalize wholeF n1 n2 vs = F at hF
  have m1 : ∀ B n, n ≤ 4 → n * B ≤ 4 * B := fun B n h => Nat.mul_le_mul_right _ h
  have l0 := @lg_le n0
  have l1 := @lg_le n1
  have l2 := @lg_le n2
  have b1 := m1 32768 n2 q2
  have b2 := m1 (n2 * 32768) n1 q1
  have b3 := m1 (n1 * (n2 * 32768)) n0 q0
  obtain ⟨M, hM⟩ : ∃ M, n0 * (n1 * (n2 * 32768)) = M := ⟨_, rfl⟩
  rw [hM] at b3
  have b4 := m1 M n2 q2
  have b5 := m1 (n2 * M) n1 q1
  have b6 := m1 (n1 * (n2 * M)) n0 q0
  obtain ⟨va, va1, va2, va3⟩ := box_ex p0 p1 p2 (row_there false n2 1074 32768 a2 (by omega) (by omega)) (row_there false n1 1074 _ a1 (by omega) (by omega)) (row_there false n0 1074 _ a0 (by omega) (by omega)) g hl F hF
  rw [hM] at va3
  obtain ⟨vb, vb1, vb2, vb3⟩ := box_ex p0 p1 p2 (row_undone n2 1074 M a2 (by omega) (by omega) (by omega)) (row_undone n1 _ _ a1 (by omega) (by omega) (by omega)) (row_undone n0 _ _ a0 (by omega) (by omega) (by omega)) va va2 _ va3
  obtain ⟨vc, vc1, vc2, vc3⟩ := box_ex p0 p1 p2 (row_undone n2 1074 32768 a2 (by omega) (by omega) (by omega)) (row_undone n1 _ _ a1 (by omega) (by omega) (by omega)) (row_undone n0 _ _ a0 (by omega) (by omega) (by omega)) g hl F hF
  rw [hM] at vc3
  obtain ⟨vd, vd1, vd2, vd3⟩ := box_ex p0 p1 p2 (row_there false n2 _ M a2 (by omega) (by omega)) (row_there false n1 _ _ a1 (by omega) (by omega)) (row_there false n0 _ _ a0 (by omega) (by omega)) vc vc2 _ vc3
  have split : ∀ i, i < n0 * n1 * n2 → ∃ x y z, x < n0 ∧ y < n1 ∧ z < n2 ∧ x = i / (n1 * n2) ∧ y = i / n2 % n1 ∧ z = i % n2 ∧ (x * n1 + y) * n2 + z = i := by
    intro i hi
    refine ⟨i / (n1 * n2), i / n2 % n1, i % n2, Nat.div_lt_of_lt_mul (by rw [Nat.mul_comm (n1 * n2), ← Nat.mul_assoc]; exact hi), Nat.mod_lt _ p1, Nat.mod_lt _ p2, rfl, rfl, rfl, ?_⟩
    have h1 := Nat.div_add_mod (i / n2) n1
    have h2 := Nat.div_add_mod i n2
    rw [Nat.mul_comm n1 n2, ← Nat.div_div_eq_div_mul, Nat.mul_comm (i / n2 / n1), h1, Nat.mul_comm]; exact h2
  have pw : ∀ v : Int, (n0 : Int) * ((n1 : Int) * ((n2 : Int) * v)) = 2 ^ (lg n2 + lg n1 + lg n0) * v := by
    intro v
    have c : ∀ n, N4 n → (n : Int) = 2 ^ lg n := fun n h => by
      have h1 := congrArg (fun k : Nat => (k : Int)) (lg_pow h)
      simp at h1; exact h1.symm
    rw [Int.pow_add, Int.pow_add, ← c _ a0, ← c _ a1, ← c _ a2]; grind
  refine ⟨va, vb, vc, vd, va1, vb1, vc1, vd1, ?_, ?_, ?_⟩
  · intro i hi
    obtain ⟨x, y, z, hx, hy, hz, _, _, _, e⟩ := split i hi
    have h1 := vb3 x y z hx hy hz
    have h2 := hF x y z hx hy hz
    unfold at3 at h1 h2
    rw [e] at h1 h2
    rw [inv3 (inv_n true false (by decide) n0 a0) (inv_n true false (by decide) n1 a1) (inv_n true false (by decide) n2 a2) F x y z hx hy hz] at h1
    refine EZ.scaled (t := lg n2 + lg n1 + lg n0) (N := 0) (u := 1074) (by rw [Nat.sub_sub, Nat.sub_sub, ← Nat.add_assoc] at h1; exact h1) h2 (by omega) ?_ ?_
    · rw [(cx_nat_mul _ _).1, (cx_nat_mul _ _).1, (cx_nat_mul _ _).1, pw]
    · rw [(cx_nat_mul _ _).2, (cx_nat_mul _ _).2, (cx_nat_mul _ _).2, pw]
  · intro i hi
    obtain ⟨x, y, z, hx, hy, hz, _, _, _, e⟩ := split i hi
    have h1 := vd3 x y z hx hy hz
    have h2 := hF x y z hx hy hz
    unfold at3 at h1 h2
    rw [e] at h1 h2
    rw [inv3 (inv_n false true (by decide) n0 a0) (inv_n false true (by decide) n1 a1) (inv_n false true (by decide) n2 a2) F x y z hx hy hz] at h1
    refine EZ.scaled (t := lg n2 + lg n1 + lg n0) (N := 0) (u := 1074) (by rw [Nat.sub_sub, Nat.sub_sub, ← Nat.add_assoc] at h1; exact h1) h2 (by omega) ?_ ?_
    · rw [(cx_nat_mul _ _).1, (cx_nat_mul _ _).1, (cx_nat_mul _ _).1, pw]
    · rw [(cx_nat_mul _ _).2, (cx_nat_mul _ _).2, (cx_nat_mul _ _).2, pw]
  · intro i hi
    obtain ⟨x, y, z, hx, hy, hz, ex, ey, ez, e⟩ := split i hi
    have h1 := va3 x y z hx hy hz
    unfold at3 at h1
    rw [e] at h1
    obtain ⟨r, r1, r2⟩ := direct_ex (u := 1074) (B := 32768) a0 a1 a2 (by omega) (by rw [Nat.mul_assoc, Nat.mul_assoc, hM]; omega) (by omega) g F hF x y z
    rw [← ex, ← ey, ← ez]
    exact ⟨r, r1, EZ.same r2 h1⟩

end Go.Proofs.Ytdeigbbilcjgjaa
