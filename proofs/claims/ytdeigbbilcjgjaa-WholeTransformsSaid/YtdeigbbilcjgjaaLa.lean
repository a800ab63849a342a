/-
  THE PLAIN LAW of WholeTransforms: what the walk is told.
-/
import Derived.Test.YtdeigbbilcjgjaaIw
import Derived.Test.YtdeigbbilcjgjaaAz
import Derived.Test.YtdeigbbilcjgjaaAc
import Derived.Test.YtdeigbbilcjgjaaEd
namespace Go.Proofs.Ytdeigbbilcjgjaa
set_option exponentiation.threshold 5000
set_option linter.unusedVariables false
set_option linter.unusedSimpArgs false

/-- Some magnitude of a pair of words. -/
def AbsR (c : C) (r : Nat) : Prop := ∃ x y m n, AbsOf c.1 c.2 x y m n r

/-- What makes the law answer true for a grid g. -/
structure WLaw (n0 n1 n2 L h0 h1 h2 : Nat) (g va vb : List C) (tP : Nat → Nat) (lim : Nat) : Prop where
  ha : boxP (lineP 9 false) n0 n1 n2 g = some va
  hb : boxP undoneP n0 n1 n2 va = some vb
  t0 : tP 0 = 0
  tot : ∀ i, i < L → ∃ r, AbsR (g.getD i (0, 0)) r ∧ fAdd (tP i) r = some (tP (i + 1))
  hl : fMul (tP L) 4427038433705197568 = some lim
  diff : ∀ i, i < L → ∃ d r, cSub (vb.getD i (0, 0)) (g.getD i (0, 0)) = some d ∧ AbsR d r ∧ (FloatKind.f64.format.order r lim == some .gt) = false
  same : N4 n0 → N4 n1 → N4 n2 → ∀ i, i < L → cEq (vb.getD i (0, 0)) (g.getD i (0, 0)) = true
  dir : ∃ s d r, directP h0 h1 h2 n0 n1 n2 g = some s ∧ cSub s (at3 n1 n2 va (h0 % n0) (h1 % n1) (h2 % n2)) = some d ∧ AbsR d r ∧ (FloatKind.f64.format.order r lim == some .lt || FloatKind.f64.format.order r lim == some .eq) = true

/-! The direct sums. -/
theorem n7_192 {n : Nat} (hn : N7 n) : 192 / n = 8 * (24 / n) := hn.div.2
def dirM24 (n0 n1 n2 h0 h1 h2 x y z : Nat) : Nat := h0 * x * (24 / n0) + h1 * y * (24 / n1) + h2 * z * (24 / n2)
theorem dirJ_eq24 {n0 n1 n2 : Nat} (a0 : N7 n0) (a1 : N7 n1) (a2 : N7 n2) (h0 h1 h2 x y z : Nat) : dirJ h0 h1 h2 n0 n1 n2 x y z = ((8 * dirM24 n0 n1 n2 h0 h1 h2 x y z : Nat) : Int) := by
  unfold dirJ dirM24
  rw [n7_192 a0, n7_192 a1, n7_192 a2]
  push_cast
  generalize ((24 / n0 : Nat) : Int) = p
  generalize ((24 / n1 : Nat) : Int) = q
  generalize ((24 / n2 : Nat) : Int) = r
  grind
theorem wy_rc192 (m : Nat) : RC (wy false ((8 * m : Nat) : Int) 192) (th false m) := by
  have e : wy false ((8 * m : Nat) : Int) 192 = tw (8 * (m % 24)) := by
    have e1 : (((8 * m : Nat) : Int) % ((192 : Nat) : Int)).toNat = 8 * (m % 24) := by omega
    show tw ((((8 * m : Nat) : Int) % ((192 : Nat) : Int)).toNat * (192 / 192)) = _
    rw [e1, show 192 / 192 = 1 from rfl, Nat.mul_one]
  rw [e, ← th_mod]
  exact tw_rc _

/-- A product of three turns. -/
theorem th3 (a b c : Nat) : BC (th false a * th false b * th false c - th false (a + b + c)) (5 * uu) := by
  have h1 := th_mul false a b
  have h2 := th_mul false (a + b) c
  have h3 := BC.mul (th_wb false c) h1
  have e : th false c * (th false a * th false b - th false (a + b)) = th false a * th false b * th false c - th false (a + b) * th false c := by
    (refine Cq.ext' ?_ ?_ <;> simp only [Cq.sub_re, Cq.sub_im, Cq.mul_re, Cq.mul_im] <;> grind)
  rw [e] at h3
  exact (h3.tri h2).mono (by have := uu_pos; grind)

theorem wt_per (n : Nat) (h7 : N7 n) (h x : Nat) : wt false n (h % n) x = th false (h * x * (24 / n)) := by
  unfold wt
  obtain ⟨h1, _⟩ := h7.div
  have e : h * x * (24 / n) = h % n * x * (24 / n) + 24 * (h / n * x) := by
    have hd := Nat.div_add_mod h n
    have : h * x * (24 / n) = (n * (h / n) + h % n) * x * (24 / n) := by rw [hd]
    have e2 : n * (h / n) * x * (24 / n) = n * (24 / n) * (h / n * x) := by
      generalize 24 / n = d
      generalize h / n = q
      simp only [Nat.mul_assoc, Nat.mul_left_comm, Nat.mul_comm]
    rw [this, Nat.add_mul, Nat.add_mul, Nat.add_comm, e2, h1]
  rw [e, th_add]

theorem direct_near {n0 n1 n2 : Nat} (a0 : N7 n0) (a1 : N7 n1) (a2 : N7 n2) (h576 : n0 * n1 * n2 ≤ 576) (xs : List C) (G : Nat → Cq) (s : Nat → Rat) (S : Rat) (hS : rsum (n0 * n1 * n2) s = S) (hST : S ≤ 1125899906842624)
    (hF : ∀ i, i < n0 * n1 * n2 → RC (xs.getD i (0, 0)) (G i) ∧ BC (G i) (s i) ∧ dl ≤ s i) (h0 h1 h2 : Nat) :
    ∃ r R, directP h0 h1 h2 n0 n1 n2 xs = some r ∧ RC r R ∧ BC (R - mr0 n0 (wt false n0) (mr1 n1 (wt false n1) (mr2 n2 (wt false n2) fun x y z => G ((x * n1 + y) * n2 + z))) (h0 % n0) (h1 % n1) (h2 % n2)) (900 * uu * S) := by
  have p1 := a1.pos
  have p2 := a2.pos
  have p0 := a0.pos
  have hu := uu_pos
  have hul := uu_le
  have hdl := dl_pos
  obtain ⟨L, hL⟩ : ∃ L, L = n0 * n1 * n2 := ⟨_, rfl⟩
  have hLp : 0 < L := by rw [hL]; exact Nat.mul_pos (Nat.mul_pos p0 p1) p2
  have hs0 : ∀ k, k < L → 0 ≤ s k := fun k hk => by have := (hF k (by omega)).2.2; grind
  have hsS : ∀ k, k < L → s k ≤ S := fun k hk => by rw [← hS, ← hL]; exact rsum_ge hs0 k hk
  have hSd : dl ≤ S := by have h1 := (hF 0 (by omega)).2.2; have h2 := hsS 0 hLp; grind
  have huS : 0 ≤ uu * S := Rat.mul_nonneg (by grind) (by grind)
  obtain ⟨M, hM⟩ : ∃ M : Nat → Nat, M = fun p => dirM24 n0 n1 n2 h0 h1 h2 (p / n2 / n1) (p / n2 % n1) (p % n2) := ⟨_, rfl⟩
  obtain ⟨ts, t1, t2, t3⟩ := collect_ex (f := dirTerm h0 h1 h2 n0 n1 n2 xs) (P := fun p c => ∃ z, RC c z ∧ BC (z - th false (M p) * G p) (5 * uu * s p)) L (by
    intro p hp
    obtain ⟨b1, b2, b3⟩ := hF p (by omega)
    obtain ⟨r, z, r1, r2, r3⟩ := b1.mul (wy_rc192 (M p)) b2 (th_wb false _) b3 (by have := hsS p hp; unfold tp; grind)
    refine ⟨r, ?_, z, r2, by rw [cq_comm]; exact r3⟩
    unfold dirTerm
    rw [dirJ_eq24 a0 a1 a2]
    rw [hM] at r1; exact r1)
  have t3' : ∀ k, ∃ R, k < L → RC (ts.getD k (0, 0)) R ∧ BC (R - th false (M k) * G k) (5 * uu * s k) := by
    intro k
    by_cases hk : k < L
    · obtain ⟨R, h⟩ := t3 k hk; exact ⟨R, fun _ => h⟩
    · exact ⟨0, fun h => absurd h hk⟩
  obtain ⟨T, hT⟩ := Classical.skolem.1 t3'
  have hTb : ∀ k, k < L → BC (T k) (3 / 2 * s k) := by
    intro k hk
    refine ((hT k hk).2.near (BC.mul (th_wb false (M k)) (hF k (by omega)).2.1)).mono ?_
    have := hs0 k hk
    have q : uu * s k ≤ 1 / 1000000000000 * s k := by have := mul_le_l hul this; grind
    grind
  obtain ⟨r, r1, R, r2, r3⟩ := csum_near (ts := ts) (T := T) (t := fun k => 3 / 2 * s k) (S := 3 / 2 * S) L (fun k hk => ⟨(hT k hk).1, hTb k hk⟩) (by rw [rsum_mul, hL, hS]; grind) (by grind) (by grind) (by omega)
  refine ⟨r, R, by unfold directP; rw [← hL, t1, Option.bind_some, r1], r2, ?_⟩
  have q1 : BC (qsum L T - qsum L fun p => th false (M p) * G p) (5 * uu * S) := by
    rw [← qsum_sub]
    have := BC.sum (n := L) (f := fun k => T k - th false (M k) * G k) (m := fun k => 5 * uu * s k) (fun k hk => (hT k hk).2)
    rw [rsum_mul, hL, hS] at this
    rw [hL]; exact this
  have q2 : BC ((qsum L fun p => th false (M p) * G p) - mr0 n0 (wt false n0) (mr1 n1 (wt false n1) (mr2 n2 (wt false n2) fun x y z => G ((x * n1 + y) * n2 + z))) (h0 % n0) (h1 % n1) (h2 % n2)) (10 * uu * S) := by
    have e : mr0 n0 (wt false n0) (mr1 n1 (wt false n1) (mr2 n2 (wt false n2) fun x y z => G ((x * n1 + y) * n2 + z))) (h0 % n0) (h1 % n1) (h2 % n2) =
        qsum L fun p => th false (h0 * (p / n2 / n1) * (24 / n0)) * th false (h1 * (p / n2 % n1) * (24 / n1)) * th false (h2 * (p % n2) * (24 / n2)) * G p := by
      rw [hL, qsum_split, qsum_split]
      simp only [mr0, mr1, mr2, ← qsum_mul]
      refine qsum_congr fun x hx => qsum_congr fun y hy => qsum_congr fun z hz => ?_
      rw [pl_q _ _ _ _ _ hz, pl_z _ _ _ _ _ hz, pl_x _ _ _ hy, pl_y _ _ _ hy, wt_per n0 a0, wt_per n1 a1, wt_per n2 a2]
      (refine Cq.ext' ?_ ?_ <;> simp only [Cq.mul_re, Cq.mul_im] <;> grind)
    rw [e, ← qsum_sub]
    have := BC.sum (n := L) (f := fun p => th false (M p) * G p - th false (h0 * (p / n2 / n1) * (24 / n0)) * th false (h1 * (p / n2 % n1) * (24 / n1)) * th false (h2 * (p % n2) * (24 / n2)) * G p) (m := fun p => 10 * uu * s p) (fun p hp => by
      have k1 := BC.mul (WB.of (th3 (h0 * (p / n2 / n1) * (24 / n0)) (h1 * (p / n2 % n1) * (24 / n1)) (h2 * (p % n2) * (24 / n2)))) (hF p (by omega)).2.1
      have k2 := k1.neg
      have hMp : M p = h0 * (p / n2 / n1) * (24 / n0) + h1 * (p / n2 % n1) * (24 / n1) + h2 * (p % n2) * (24 / n2) := by rw [hM]; rfl
      rw [← hMp] at k2
      have e : ∀ a b c : Cq, -((a - b) * c) = b * c - a * c := fun a b c => by (refine Cq.ext' ?_ ?_ <;> simp only [Cq.sub_re, Cq.sub_im, Cq.neg_re, Cq.neg_im, Cq.mul_re, Cq.mul_im] <;> grind)
      rw [e] at k2
      exact k2.mono (by grind))
    rw [rsum_mul, hL, hS] at this
    rw [hL]; exact this
  refine ((r3.tri q1).tri q2).mono ?_
  have hLr : (L : Rat) ≤ 576 := by
    have := Rat.natCast_le_natCast.2 (show L ≤ 576 by omega)
    exact this
  have e : 1001 / 1000 * (uu * (3 / 2 * S)) = 3003 / 2000 * (uu * S) := by grind
  rw [e]
  have h3 := mul_le_l hLr (show 0 ≤ 3003 / 2000 * (uu * S) by grind)
  have e2 : 5 * uu * S = 5 * (uu * S) := by grind
  have e3 : 10 * uu * S = 10 * (uu * S) := by grind
  have e4 : 900 * uu * S = 900 * (uu * S) := by grind
  rw [e2, e3, e4]
  generalize uu * S = q at *
  grind

end Go.Proofs.Ytdeigbbilcjgjaa
