/-
  What a transform along an edge makes of a grid, place by place.
-/
import Derived.Test.YtdeigbbilcjgjaaAlong
namespace Go.Proofs.Ytdeigbbilcjgjaa
set_option linter.unusedVariables false
set_option linter.unusedSimpArgs false

theorem putN_get (apart : Nat) (ys : List C) (k : Nat) (r : List C) (h0 : 0 < apart) (j p : Nat) (hp : p < ys.length) :
    (∀ i, i < j → p = k + i * apart → (putN apart ys k r j).getD p (0, 0) = r.getD i (0, 0)) ∧
    ((∀ i, i < j → p ≠ k + i * apart) → (putN apart ys k r j).getD p (0, 0) = ys.getD p (0, 0)) := by
  induction j with
  | zero => exact ⟨fun i hi => by omega, fun _ => rfl⟩
  | succ j ih =>
    have hl := putN_length apart ys k r j
    refine ⟨fun i hi he => ?_, fun hne => ?_⟩
    · simp only [putN]
      by_cases hij : i = j
      · subst hij
        subst he
        simp [List.getD_eq_getElem?_getD, hl, hp]
      · have hne : k + j * apart ≠ p := by
          intro h
          have e : i * apart = j * apart := by omega
          exact hij (Nat.eq_of_mul_eq_mul_right h0 e)
        have := ih.1 i (by omega) he
        rw [← this]
        simp [List.getD_eq_getElem?_getD, List.getElem?_set, hne]
    · simp only [putN]
      have h1 : k + j * apart ≠ p := fun h => hne j (by omega) h.symm
      rw [← ih.2 (fun i hi => hne i (by omega))]
      simp [List.getD_eq_getElem?_getD, List.getElem?_set, h1]

/-- Where the row of a place begins. -/
def rowSt (n apart p : Nat) : Nat := p - p / apart % n * apart

theorem rowSt_form (n apart p : Nat) : p / apart % n * apart ≤ p ∧ rowSt n apart p = apart * (n * (p / apart / n)) + p % apart := by
  have h1 : p = apart * (p / apart) + p % apart := (Nat.div_add_mod p apart).symm
  have h2 : p / apart = n * (p / apart / n) + p / apart % n := (Nat.div_add_mod (p / apart) n).symm
  have e : apart * (n * (p / apart / n) + p / apart % n) = apart * (n * (p / apart / n)) + p / apart % n * apart := by rw [Nat.mul_add, Nat.mul_comm apart (p / apart % n)]
  rw [← h2] at e
  unfold rowSt
  omega

theorem rowSt_eq (n apart p : Nat) (h0 : 0 < apart) : p = rowSt n apart p + p / apart % n * apart ∧ rowSt n apart p / apart % n = 0 := by
  obtain ⟨h1, h2⟩ := rowSt_form n apart p
  refine ⟨by unfold rowSt; omega, ?_⟩
  rw [h2, Nat.mul_comm apart, Nat.add_comm, Nat.add_mul_div_right _ _ h0, Nat.div_eq_of_lt (Nat.mod_lt _ h0), Nat.zero_add, Nat.mul_mod_right]

/-- The places of a row that begins at k. -/
theorem rowSt_of (n apart k i : Nat) (h0 : 0 < apart) (hi : i < n) (hk : k / apart % n = 0) : rowSt n apart (k + i * apart) = k ∧ (k + i * apart) / apart % n = i := by
  have h1 : (k + i * apart) / apart = k / apart + i := Nat.add_mul_div_right _ _ h0
  have h2 : (k / apart + i) % n = i := by rw [Nat.add_mod, hk, Nat.zero_add, Nat.mod_mod, Nat.mod_eq_of_lt hi]
  refine ⟨?_, by rw [h1, h2]⟩
  unfold rowSt
  rw [h1, h2]; omega

/-- ALONG AN EDGE: where f makes R s of the row that begins at s, the place p holds what R of its row has there. -/
theorem alongN_spec {f : List C → Option (List C)} {n apart m : Nat} {xs : List C} (h0 : 0 < apart) (hn : 0 < n) (hL : xs.length = n * apart * m) (R : Nat → List C)
    (hR : ∀ s, s < xs.length → s / apart % n = 0 → f (rowOf n apart xs s) = some (R s)) :
    ∀ k, k ≤ xs.length → ∃ ys, alongN f n apart xs k = some ys ∧ ys.length = xs.length ∧
      ∀ p, p < xs.length → ys.getD p (0, 0) = if rowSt n apart p < k then (R (rowSt n apart p)).getD (p / apart % n) (0, 0) else xs.getD p (0, 0) := by
  intro k
  induction k with
  | zero => intro _; exact ⟨xs, rfl, rfl, fun p _ => by rw [if_neg (by omega)]⟩
  | succ k ih =>
    intro hk
    obtain ⟨ys, h1, h2, h3⟩ := ih (by omega)
    by_cases hz : k / apart % n = 0
    · have hrow : rowOf n apart ys k = rowOf n apart xs k := by
        unfold rowOf
        refine List.map_congr_left fun i hi => ?_
        have hi' : i < n := by simpa using hi
        have hlt : k + i * apart < xs.length := by rw [hL]; exact along_lt k apart n m i h0 (by omega) hz hi'
        rw [h3 _ hlt, (rowSt_of n apart k i h0 hi' hz).1, if_neg (by omega)]
      refine ⟨putN apart ys k (R k) n, ?_, by rw [putN_length, h2], fun p hp => ?_⟩
      · simp only [alongN, h1, Option.bind_some, hz, if_true, hrow, hR k (by omega) hz]
      · have hg := putN_get apart ys k (R k) h0 n p (by rw [h2]; exact hp)
        by_cases hs : rowSt n apart p = k
        · have he := (rowSt_eq n apart p h0).1
          rw [hs] at he
          rw [hg.1 _ (Nat.mod_lt _ hn) he, hs, if_pos (by omega)]
        · have hne : ∀ i, i < n → p ≠ k + i * apart := fun i hi e => hs (by rw [e]; exact (rowSt_of n apart k i h0 hi hz).1)
          rw [hg.2 hne, h3 p hp]
          by_cases hlt : rowSt n apart p < k
          · rw [if_pos hlt, if_pos (by omega)]
          · rw [if_neg hlt, if_neg (by omega)]
    · refine ⟨ys, alongN_skip h1 hz, h2, fun p hp => ?_⟩
      have hs : rowSt n apart p ≠ k := fun e => hz (by rw [← e]; exact (rowSt_eq n apart p h0).2)
      rw [h3 p hp]
      by_cases hlt : rowSt n apart p < k
      · rw [if_pos hlt, if_pos (by omega)]
      · rw [if_neg hlt, if_neg (by omega)]

theorem alongP_spec {f : List C → Option (List C)} {n apart m : Nat} {xs : List C} (h0 : 0 < apart) (hn : 0 < n) (hL : xs.length = n * apart * m) (R : Nat → List C)
    (hR : ∀ s, s < xs.length → s / apart % n = 0 → f (rowOf n apart xs s) = some (R s)) :
    ∃ ys, alongP f n apart xs = some ys ∧ ys.length = xs.length ∧ ∀ p, p < xs.length → ys.getD p (0, 0) = (R (rowSt n apart p)).getD (p / apart % n) (0, 0) := by
  obtain ⟨ys, h1, h2, h3⟩ := alongN_spec h0 hn hL R hR xs.length (Nat.le_refl _)
  refine ⟨ys, h1, h2, fun p hp => ?_⟩
  rw [h3 p hp, if_pos (by unfold rowSt; omega)]

/-- The number at a place. -/
def at3 (n1 n2 : Nat) (xs : List C) (x y z : Nat) : C := xs.getD ((x * n1 + y) * n2 + z) (0, 0)

theorem place3_lt (n0 n1 n2 x y z : Nat) (hx : x < n0) (hy : y < n1) (hz : z < n2) : (x * n1 + y) * n2 + z < n0 * n1 * n2 := by
  have h1 : x * n1 + y + 1 ≤ n0 * n1 := by
    have : (x + 1) * n1 ≤ n0 * n1 := Nat.mul_le_mul_right _ hx
    rw [Nat.add_mul, Nat.one_mul] at this; omega
  have h2 : (x * n1 + y + 1) * n2 ≤ n0 * n1 * n2 := Nat.mul_le_mul_right _ h1
  rw [Nat.add_mul (x * n1 + y) 1, Nat.one_mul] at h2
  omega

theorem pl_z (n1 n2 x y z : Nat) (hz : z < n2) : ((x * n1 + y) * n2 + z) % n2 = z := by
  rw [Nat.add_comm, Nat.add_mul_mod_self_right, Nat.mod_eq_of_lt hz]
theorem pl_q (n1 n2 x y z : Nat) (hz : z < n2) : ((x * n1 + y) * n2 + z) / n2 = x * n1 + y := by
  rw [Nat.add_comm, Nat.add_mul_div_right _ _ (by omega), Nat.div_eq_of_lt hz, Nat.zero_add]
theorem pl_y (n1 x y : Nat) (hy : y < n1) : (x * n1 + y) % n1 = y := by
  rw [Nat.add_comm, Nat.add_mul_mod_self_right, Nat.mod_eq_of_lt hy]
theorem pl_x (n1 x y : Nat) (hy : y < n1) : (x * n1 + y) / n1 = x := by
  rw [Nat.add_comm, Nat.add_mul_div_right _ _ (by omega), Nat.div_eq_of_lt hy, Nat.zero_add]

theorem along_2 {f : List C → Option (List C)} {n0 n1 n2 : Nat} {xs : List C} (h1 : 0 < n1) (h2 : 0 < n2) (hL : xs.length = n0 * n1 * n2) (R : Nat → Nat → List C)
    (hR : ∀ x y, x < n0 → y < n1 → f ((List.range n2).map fun z => at3 n1 n2 xs x y z) = some (R x y)) :
    ∃ ys, alongP f n2 1 xs = some ys ∧ ys.length = xs.length ∧ ∀ x y z, x < n0 → y < n1 → z < n2 → at3 n1 n2 ys x y z = (R x y).getD z (0, 0) := by
  obtain ⟨ys, g1, g2, g3⟩ := alongP_spec (f := f) (n := n2) (apart := 1) (m := n0 * n1) (xs := xs) (by omega) h2 (by rw [hL, Nat.mul_one, Nat.mul_comm]) (fun s => R (s / n2 / n1) (s / n2 % n1)) (by
    intro s hs hz
    rw [Nat.div_one] at hz
    have e : s = n2 * (s / n2) := by have := Nat.div_add_mod s n2; omega
    have hq : s / n2 < n0 * n1 := Nat.div_lt_of_lt_mul (by rw [Nat.mul_comm]; omega)
    rw [← hR (s / n2 / n1) (s / n2 % n1) (Nat.div_lt_of_lt_mul (by rw [Nat.mul_comm]; exact hq)) (Nat.mod_lt _ h1)]
    congr 1
    unfold rowOf at3
    refine List.map_congr_left fun i _ => ?_
    have e2 : s / n2 / n1 * n1 + s / n2 % n1 = s / n2 := by have := Nat.div_add_mod (s / n2) n1; rw [Nat.mul_comm] at this; exact this
    rw [e2, Nat.mul_one, Nat.mul_comm (s / n2), ← e])
  refine ⟨ys, g1, g2, fun x y z hx hy hz => ?_⟩
  unfold at3
  rw [g3 _ (by rw [hL]; exact place3_lt _ _ _ _ _ _ hx hy hz), Nat.div_one, pl_z _ _ _ _ _ hz]
  have hst : rowSt n2 1 ((x * n1 + y) * n2 + z) = (x * n1 + y) * n2 + 0 := by unfold rowSt; rw [Nat.div_one, pl_z _ _ _ _ _ hz]; omega
  rw [hst, pl_q _ _ _ _ _ h2, pl_x _ _ _ hy, pl_y _ _ _ hy]

theorem along_1 {f : List C → Option (List C)} {n0 n1 n2 : Nat} {xs : List C} (h1 : 0 < n1) (h2 : 0 < n2) (hL : xs.length = n0 * n1 * n2) (R : Nat → Nat → List C)
    (hR : ∀ x z, x < n0 → z < n2 → f ((List.range n1).map fun y => at3 n1 n2 xs x y z) = some (R x z)) :
    ∃ ys, alongP f n1 n2 xs = some ys ∧ ys.length = xs.length ∧ ∀ x y z, x < n0 → y < n1 → z < n2 → at3 n1 n2 ys x y z = (R x z).getD y (0, 0) := by
  obtain ⟨ys, g1, g2, g3⟩ := alongP_spec (f := f) (n := n1) (apart := n2) (m := n0) (xs := xs) h2 h1 (by rw [hL, Nat.mul_comm n1 n2, Nat.mul_comm, ← Nat.mul_assoc, Nat.mul_right_comm]) (fun s => R (s / n2 / n1) (s % n2)) (by
    intro s hs hz
    have hq : s / n2 < n0 * n1 := Nat.div_lt_of_lt_mul (by rw [Nat.mul_comm]; omega)
    rw [← hR (s / n2 / n1) (s % n2) (Nat.div_lt_of_lt_mul (by rw [Nat.mul_comm]; exact hq)) (Nat.mod_lt _ h2)]
    congr 1
    unfold rowOf at3
    refine List.map_congr_left fun i _ => ?_
    have e2 : s / n2 = n1 * (s / n2 / n1) := by have := Nat.div_add_mod (s / n2) n1; omega
    have e3 : s = n2 * (s / n2) + s % n2 := (Nat.div_add_mod s n2).symm
    congr 1
    rw [Nat.add_mul, Nat.mul_comm (s / n2 / n1), ← e2, Nat.mul_comm (s / n2)]
    omega)
  refine ⟨ys, g1, g2, fun x y z hx hy hz => ?_⟩
  unfold at3
  rw [g3 _ (by rw [hL]; exact place3_lt _ _ _ _ _ _ hx hy hz), pl_q _ _ _ _ _ hz, pl_y _ _ _ hy]
  have hst : rowSt n1 n2 ((x * n1 + y) * n2 + z) = (x * n1 + 0) * n2 + z := by
    unfold rowSt; rw [pl_q _ _ _ _ _ hz, pl_y _ _ _ hy, Nat.add_mul, Nat.add_zero]; omega
  rw [hst, pl_q _ _ _ _ _ hz, pl_x _ _ _ h1, pl_z _ _ _ _ _ hz]

theorem along_0 {f : List C → Option (List C)} {n0 n1 n2 : Nat} {xs : List C} (h0 : 0 < n0) (h1 : 0 < n1) (h2 : 0 < n2) (hL : xs.length = n0 * n1 * n2) (R : Nat → Nat → List C)
    (hR : ∀ y z, y < n1 → z < n2 → f ((List.range n0).map fun x => at3 n1 n2 xs x y z) = some (R y z)) :
    ∃ ys, alongP f n0 (n2 * n1) xs = some ys ∧ ys.length = xs.length ∧ ∀ x y z, x < n0 → y < n1 → z < n2 → at3 n1 n2 ys x y z = (R y z).getD x (0, 0) := by
  have hq : ∀ x y z, (x * n1 + y) * n2 + z = y * n2 + z + x * (n2 * n1) := by
    intro x y z
    rw [Nat.add_mul, Nat.mul_assoc, Nat.mul_comm n1 n2]; omega
  have hyz : ∀ y z, y < n1 → z < n2 → y * n2 + z < n2 * n1 := by
    intro y z hy hz
    have : (y + 1) * n2 ≤ n1 * n2 := Nat.mul_le_mul_right _ hy
    rw [Nat.add_mul, Nat.one_mul, Nat.mul_comm n1] at this; omega
  obtain ⟨ys, g1, g2, g3⟩ := alongP_spec (f := f) (n := n0) (apart := n2 * n1) (m := 1) (xs := xs) (Nat.mul_pos h2 h1) h0 (by rw [hL, Nat.mul_one, Nat.mul_assoc, Nat.mul_comm n1 n2]) (fun s => R (s / n2) (s % n2)) (by
    intro s hs hz
    have hlt : s / (n2 * n1) < n0 := Nat.div_lt_of_lt_mul (by rw [Nat.mul_comm (n2 * n1), Nat.mul_comm n2, ← Nat.mul_assoc]; omega)
    have hs0 : s / (n2 * n1) = 0 := by rw [Nat.mod_eq_of_lt hlt] at hz; exact hz
    have hs1 : s < n2 * n1 := by
      have h3 := Nat.div_add_mod s (n2 * n1)
      have h4 := Nat.mod_lt s (Nat.mul_pos h2 h1)
      rw [hs0] at h3; omega
    rw [← hR (s / n2) (s % n2) (Nat.div_lt_of_lt_mul hs1) (Nat.mod_lt _ h2)]
    congr 1
    unfold rowOf at3
    refine List.map_congr_left fun i _ => ?_
    have e3 : s = n2 * (s / n2) + s % n2 := (Nat.div_add_mod s n2).symm
    congr 1
    rw [hq, Nat.mul_comm (s / n2)]
    omega)
  refine ⟨ys, g1, g2, fun x y z hx hy hz => ?_⟩
  unfold at3
  have hp := hyz y z hy hz
  rw [g3 _ (by rw [hL]; exact place3_lt _ _ _ _ _ _ hx hy hz), hq]
  have hdiv : (y * n2 + z + x * (n2 * n1)) / (n2 * n1) = x := by rw [Nat.add_mul_div_right _ _ (Nat.mul_pos h2 h1), Nat.div_eq_of_lt hp, Nat.zero_add]
  have hst : rowSt n0 (n2 * n1) (y * n2 + z + x * (n2 * n1)) = y * n2 + z := by
    unfold rowSt; rw [hdiv, Nat.mod_eq_of_lt hx]; omega
  rw [hst, hdiv, Nat.mod_eq_of_lt hx, pl_x _ _ _ hz, pl_y _ _ _ hz]

end Go.Proofs.Ytdeigbbilcjgjaa
