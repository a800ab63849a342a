/-
  A power of two divides exactly; the law's box there and back, back and there, and place by place.
-/
import Derived.Test.YtdeigbbilcjgjaaEy
import Derived.Test.YtdeigbbilcjgjaaXd
namespace Go.Proofs.Ytdeigbbilcjgjaa
set_option exponentiation.threshold 5000
set_option linter.unusedVariables false
set_option linter.unusedSimpArgs false

theorem log2_le52 {m : Nat} (hm : m < 2 ^ 53) : m.log2 ≤ 52 := by
  by_cases h : m = 0
  · subst h; decide
  · have : m.log2 < 53 := (Nat.log2_lt h).2 hm
    omega

theorem fdiv_ex {a b u k : Nat} {x : Int} (ha : val a = some (x * 2 ^ u)) (hb : D.read b = .number false (2 ^ 52) ((k : Int) - 52)) (hk : k ≤ 52) (hku : k ≤ u) (hu : u ≤ 1100) (hx : x.natAbs < 2 ^ 53) :
    ∃ r, fDiv a b = some r ∧ val r = some (x * 2 ^ (u - k)) := by
  obtain ⟨s, m, i, h1, h2, h3, hv⟩ := val_sg ha
  have hl := log2_le52 h3
  obtain ⟨more, hmore⟩ : ∃ more, more = 106 - m.log2 := ⟨_, rfl⟩
  have hq : m <<< more / 2 ^ 52 = m * 2 ^ (more - 52) := by
    rw [Nat.shiftLeft_eq, show more = (more - 52) + 52 by omega, Nat.pow_add, ← Nat.mul_assoc, Nat.mul_div_cancel _ (Nat.two_pow_pos 52), Nat.add_sub_cancel]
  have hr : m <<< more % 2 ^ 52 = 0 := by
    rw [Nat.shiftLeft_eq, show more = (more - 52) + 52 by omega, Nat.pow_add, ← Nat.mul_assoc, Nat.mul_mod_left]
  have hquo : (D.read a).quotient 54 (D.read b) = some (.number s (2 * (m * 2 ^ (more - 52))) (i - ((k : Int) - 52) - more - 1)) := by
    rw [h1, hb]
    have e : (54 + (2 ^ 52 : Nat).log2 - m.log2) = more := by
      rw [Nat.log2_two_pow]; omega
    simp only [Ieee.Datum.quotient, e, hq, hr]
    rw [if_neg (by decide)]
    simp
  have hX : x * 2 ^ (u - k) * 2 ^ 1074 = sg s (2 * (m * 2 ^ (more - 52)) * 2 ^ ((i - ((k : Int) - 52) - more - 1) + 2148).toNat) := by
    have e1 : 2 * (m * 2 ^ (more - 52)) * 2 ^ ((i - ((k : Int) - 52) - more - 1) + 2148).toNat = m * 2 ^ (i - k + 2148).toNat := by
      rw [show (i - k + 2148).toNat = 1 + (more - 52) + ((i - ((k : Int) - 52) - more - 1) + 2148).toNat by omega, Nat.pow_add, Nat.pow_add, Nat.pow_one]
      simp only [Nat.mul_assoc, Nat.mul_left_comm]
    rw [e1]
    have e2 : (x * 2 ^ (u - k) * 2 ^ 1074) * 2 ^ k = sg s (m * 2 ^ (i - k + 2148).toNat) * 2 ^ k := by
      have e3 : sg s (m * 2 ^ (i - k + 2148).toNat) * 2 ^ k = sg s (m * 2 ^ (i + 1074).toNat) * 2 ^ 1074 := by
        have c1 : ((2 ^ k : Nat) : Int) = 2 ^ k := by simp
        have c2 : ((2 ^ 1074 : Nat) : Int) = 2 ^ 1074 := by simp
        rw [← c1, ← c2, ← sg_mul, ← sg_mul, Nat.mul_assoc, Nat.mul_assoc, ← Nat.pow_add, ← Nat.pow_add, show (i - k + 2148).toNat + k = (i + 1074).toNat + 1074 by omega]
      rw [e3, ← hv, show (2 : Int) ^ u = 2 ^ (u - k) * 2 ^ k by rw [← Int.pow_add, Nat.sub_add_cancel hku]]
      generalize (2 : Int) ^ (u - k) = p
      generalize (2 : Int) ^ 1074 = q
      generalize (2 : Int) ^ k = r
      grind
    exact Int.eq_of_mul_eq_mul_right (Int.pow_ne_zero (by decide)) e2
  have hN : (x * 2 ^ (u - k) * 2 ^ 1074).natAbs = x.natAbs * 2 ^ (1074 + (u - k)) := by
    rw [Int.mul_assoc, ← Int.pow_add, Nat.add_comm, natAbs_scale]
  obtain ⟨z, hz, _, g2⟩ := write_val s (2 * (m * 2 ^ (more - 52))) (i - ((k : Int) - 52) - more - 1) (by omega) (x * 2 ^ (u - k) * 2 ^ 1074) hX (by
    rw [hN, show (2 : Nat) ^ 3148 = 2 ^ 2074 * 2 ^ 1074 by rw [← Nat.pow_add], Nat.add_comm, Nat.pow_add, ← Nat.mul_assoc]
    exact Nat.mul_lt_mul_of_pos_right (big_ok _ _ hx (by omega)) (Nat.two_pow_pos _))
  have := Int.eq_of_mul_eq_mul_right (by decide) (g2 _ _ hN hx)
  refine ⟨D.write (.number s (2 * (m * 2 ^ (more - 52))) (i - ((k : Int) - 52) - more - 1)), ?_, by rw [hz, this]⟩
  show ((D.read a).quotient 54 (D.read b)).map D.write = _
  rw [hquo]; rfl

theorem read_1 : D.read (floatOfInt .f64 (1 : Nat)) = .number false (2 ^ 52) (((0 : Nat) : Int) - 52) := by decide +kernel
theorem read_2 : D.read (floatOfInt .f64 (2 : Nat)) = .number false (2 ^ 52) (((1 : Nat) : Int) - 52) := by decide +kernel
theorem read_4 : D.read (floatOfInt .f64 (4 : Nat)) = .number false (2 ^ 52) (((2 : Nat) : Int) - 52) := by decide +kernel

/-- How many halves an edge takes. -/
def lg (n : Nat) : Nat := if n = 1 then 0 else if n = 2 then 1 else 2
theorem lg_pow {n : Nat} (hn : N4 n) : 2 ^ lg n = n := by rcases hn with rfl | rfl | rfl <;> rfl
theorem lg_le {n : Nat} : lg n ≤ 2 := by unfold lg; split; omega; split <;> omega
theorem read_n {n : Nat} (hn : N4 n) : D.read (floatOfInt .f64 n) = .number false (2 ^ 52) (((lg n : Nat) : Int) - 52) := by
  rcases hn with rfl | rfl | rfl
  · exact read_1
  · exact read_2
  · exact read_4

theorem EZ.div {u B k n : Nat} {a : C} {x : Cx} (ha : EZ u B a x) (hn : N4 n) (hk : lg n ≤ u) (hu : u ≤ 1100) (hB : B < 2 ^ 53) : ∃ r, divC (floatOfInt .f64 n) a = some r ∧ EZ (u - lg n) B r x := by
  obtain ⟨⟨a1, a2⟩, a3, a4⟩ := ha
  have hl : lg n ≤ 52 := Nat.le_trans lg_le (by omega)
  obtain ⟨r, r1, r2⟩ := fdiv_ex a1 (read_n hn) hl hk hu (by omega)
  obtain ⟨s, s1, s2⟩ := fdiv_ex a2 (read_n hn) hl hk hu (by omega)
  refine ⟨(r, s), ?_, ⟨r2, s2⟩, a3, a4⟩
  unfold divC; rw [r1, s1]; rfl

theorem row_undone (n u B : Nat) (hn : N4 n) (hk : lg n ≤ u) (hu : u ≤ 1100) (hB : n * B < 2 ^ 53) : RowEx undoneP n u (u - lg n) B (n * B) (wz true n) := by
  intro xs X hl hx
  obtain ⟨r, r1, r2, r3⟩ := row_there true n u B hn hu hB xs X hl hx
  obtain ⟨l, l1, l2, l3⟩ := collect_ex (f := fun i => divC (floatOfInt .f64 r.length) (r.getD i (0, 0))) (P := fun j c => EZ (u - lg n) (n * B) c (ssum n fun k => wz true n (j * k) * X k)) n (fun j hj => by
    rw [r2]; exact (r3 j hj).div (k := 0) hn hk hu hB)
  refine ⟨l, ?_, l2, l3⟩
  unfold undoneP
  rw [r1, Option.bind_some, r2, ← r2, ← l1, r2]

theorem inv_n (b c : Bool) (hbc : b ≠ c) (n : Nat) (hn : N4 n) : Inv n (wz b n) (wz c n) (n : Cx) := by
  intro i z hi hz
  rcases hn with rfl | rfl | rfl
  · obtain rfl : i = 0 := (by omega)
    obtain rfl : z = 0 := (by omega)
    cases b <;> cases c <;> first | exact absurd rfl hbc | rfl
  · rcases (by omega : i = 0 ∨ i = 1) with rfl | rfl <;> rcases (by omega : z = 0 ∨ z = 1) with rfl | rfl <;> cases b <;> cases c <;> first | exact absurd rfl hbc | rfl
  · rcases (by omega : i = 0 ∨ i = 1 ∨ i = 2 ∨ i = 3) with rfl | rfl | rfl | rfl <;> rcases (by omega : z = 0 ∨ z = 1 ∨ z = 2 ∨ z = 3) with rfl | rfl | rfl | rfl <;> cases b <;> cases c <;> first | exact absurd rfl hbc | rfl

theorem nat_re (n : Nat) : ((n : Cx)).re = n ∧ ((n : Cx)).im = 0 := ⟨rfl, rfl⟩
theorem cx_nat_mul (n : Nat) (a : Cx) : ((n : Cx) * a).re = n * a.re ∧ ((n : Cx) * a).im = n * a.im := by
  rw [Cx.mul_re, Cx.mul_im, (nat_re n).1, (nat_re n).2]
  constructor <;> simp

/-- What was spread over N parts and set so much lower is itself. -/
theorem EZ.scaled {t N B B' u : Nat} {c d : C} {x y : Cx} (hc : EZ (u - t) B c y) (hd : EZ u B' d x) (htu : t ≤ u) (hre : y.re = 2 ^ t * x.re) (him : y.im = 2 ^ t * x.im) : cEq c d = true := by
  obtain ⟨⟨c1, c2⟩, _⟩ := hc
  obtain ⟨⟨d1, d2⟩, _⟩ := hd
  have e : ∀ p : Int, 2 ^ t * p * 2 ^ (u - t) = p * 2 ^ u := by
    intro p
    rw [show (2 : Int) ^ u = 2 ^ t * 2 ^ (u - t) by rw [← Int.pow_add, show t + (u - t) = u by omega]]
    generalize (2 : Int) ^ t = a
    generalize (2 : Int) ^ (u - t) = b
    grind
  rw [hre, e] at c1
  rw [him, e] at c2
  unfold cEq
  have f : ∀ p : Int, compare p p = .eq := fun p => Int.compare_eq_eq.2 rfl
  have o1 : FloatKind.f64.format.order c.1 d.1 = some .eq := by rw [show FloatKind.f64.format = D from rfl, order_val c1 d1, f]
  have o2 : FloatKind.f64.format.order c.2 d.2 = some .eq := by rw [show FloatKind.f64.format = D from rfl, order_val c2 d2, f]
  rw [o1, o2]; rfl

theorem EZ.same {B B' u : Nat} {c d : C} {x : Cx} (hc : EZ u B c x) (hd : EZ u B' d x) : cEq c d = true :=
  EZ.scaled (t := 0) (N := 1) (by simpa using hc) hd (Nat.zero_le _) (by simp) (by simp)

end Go.Proofs.Ytdeigbbilcjgjaa
