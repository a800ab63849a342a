/-
  What a transform along an edge makes of the numbers of a grid, as a function.
-/
import Derived.Test.YtdeigbbilcjgjaaFft
namespace Go.Proofs.Ytdeigbbilcjgjaa

/-- The row that begins at a place. -/
def rowOf (n apart : Nat) (ys : List C) (at0 : Nat) : List C := (List.range n).map fun i => ys.getD (at0 + i * apart) (0, 0)
/-- The first i of a row's new numbers laid back. -/
def putN (apart : Nat) (ys : List C) (at0 : Nat) (r : List C) : Nat → List C
  | 0 => ys
  | i + 1 => (putN apart ys at0 r i).set (at0 + i * apart) (r.getD i (0, 0))
/-- The numbers when the first k places have been gone through. -/
def alongN (f : List C → Option (List C)) (n apart : Nat) (xs : List C) : Nat → Option (List C)
  | 0 => some xs
  | k + 1 => (alongN f n apart xs k).bind fun ys => if k / apart % n = 0 then (f (rowOf n apart ys k)).bind fun r => some (putN apart ys k r n) else some ys
def alongP (f : List C → Option (List C)) (n apart : Nat) (xs : List C) : Option (List C) := alongN f n apart xs xs.length

theorem rowOf_length (n apart : Nat) (ys : List C) (k : Nat) : (rowOf n apart ys k).length = n := by simp [rowOf]
theorem rowOf_get (n apart : Nat) (ys : List C) (k i : Nat) (h : i < n) : (rowOf n apart ys k).getD i (0, 0) = ys.getD (k + i * apart) (0, 0) := by simp [rowOf, h]
theorem putN_length (apart : Nat) (ys : List C) (k : Nat) (r : List C) (i : Nat) : (putN apart ys k r i).length = ys.length := by
  induction i with
  | zero => rfl
  | succ i ih => simp [putN, ih]
theorem alongN_length {f : List C → Option (List C)} {n apart : Nat} {xs ys : List C} {k : Nat} (h : alongN f n apart xs k = some ys) : ys.length = xs.length := by
  induction k generalizing ys with
  | zero => simp [alongN] at h; rw [h]
  | succ k ih =>
    obtain ⟨zs, hz, hs⟩ := Option.bind_eq_some_iff.1 h
    split at hs
    · obtain ⟨r, _, hr⟩ := Option.bind_eq_some_iff.1 hs
      cases hr
      rw [putN_length, ih hz]
    · cases hs; exact ih hz
theorem alongN_some {f : List C → Option (List C)} {n apart : Nat} {xs ys : List C} {m : Nat} (h : alongN f n apart xs m = some ys) : ∀ k, k ≤ m → ∃ zs, alongN f n apart xs k = some zs := by
  induction m generalizing ys with
  | zero => intro k hk; obtain rfl : k = 0 := by omega
            exact ⟨_, h⟩
  | succ m ih =>
    intro k hk
    by_cases hkm : k = m + 1
    · subst hkm; exact ⟨_, h⟩
    · obtain ⟨zs, hz, _⟩ := Option.bind_eq_some_iff.1 h
      exact ih hz k (by omega)
theorem alongN_skip {f : List C → Option (List C)} {n apart : Nat} {xs ys : List C} {k : Nat} (h : alongN f n apart xs k = some ys) (hz : k / apart % n ≠ 0) : alongN f n apart xs (k + 1) = some ys := by
  simp [alongN, h, hz]
theorem alongN_take {f : List C → Option (List C)} {n apart : Nat} {xs ys zs : List C} {k m : Nat} (hm : alongN f n apart xs m = some zs) (hk : k < m) (h : alongN f n apart xs k = some ys) (hz : k / apart % n = 0) :
    ∃ r, f (rowOf n apart ys k) = some r ∧ alongN f n apart xs (k + 1) = some (putN apart ys k r n) := by
  obtain ⟨vs, hv⟩ := alongN_some hm (k + 1) (by omega)
  have hv' := hv
  simp only [alongN, h, Option.bind_some, hz, if_true] at hv'
  obtain ⟨r, hr, hs⟩ := Option.bind_eq_some_iff.1 hv'
  exact ⟨r, hr, by rw [hv]; exact hs.symm⟩

theorem along_lt (k apart n m i : Nat) (h0 : 0 < apart) (hk : k < n * apart * m) (hz : k / apart % n = 0) (hi : i < n) : k + i * apart < n * apart * m := by
  have h1 : k = apart * (k / apart) + k % apart := (Nat.div_add_mod k apart).symm
  have h2 : k / apart = n * (k / apart / n) := by have := Nat.div_add_mod (k / apart) n; omega
  have h3 : k % apart < apart := Nat.mod_lt _ h0
  generalize hq : k / apart / n = q at h2
  have h4 : q < m := by
    rcases Nat.lt_or_ge q m with h | h
    · exact h
    · exfalso
      have : n * apart * m ≤ n * apart * q := Nat.mul_le_mul_left _ h
      have e : apart * (n * q) = n * apart * q := by rw [← Nat.mul_assoc, Nat.mul_comm apart n]
      rw [h2, e] at h1
      omega
  have h5 : n * apart * (q + 1) ≤ n * apart * m := Nat.mul_le_mul_left _ h4
  have e : apart * (n * q) = n * apart * q := by rw [← Nat.mul_assoc, Nat.mul_comm apart n]
  rw [h2, e] at h1
  have h6 : (i + 1) * apart ≤ n * apart := Nat.mul_le_mul_right _ hi
  rw [Nat.add_mul, Nat.one_mul] at h6
  rw [Nat.mul_add, Nat.mul_one] at h5
  omega

/-- Along the third edge, the second, the first. -/
def boxP (f : List C → Option (List C)) (n0 n1 n2 : Nat) (xs : List C) : Option (List C) :=
  (alongP f n2 1 xs).bind fun a => (alongP f n1 n2 a).bind fun b => alongP f n0 (n2 * n1) b

theorem alongP_length {f : List C → Option (List C)} {n apart : Nat} {xs ys : List C} (h : alongP f n apart xs = some ys) : ys.length = xs.length := alongN_length h

end Go.Proofs.Ytdeigbbilcjgjaa
