/-
  What the transforms make of lists, as functions: nothing where a NaN would be.
-/
import Derived.Test.YtdeigbbilcjgjaaPure
import Derived.Test.YtdeigbbilcjgjaaMem
namespace Go.Proofs.Ytdeigbbilcjgjaa

/-- One product of a sum of n (1 or 3) terms. -/
def oddTerm (back : Bool) (xs : List C) (j k : Nat) : Option C := cMul (xs.getD k (0, 0)) (wy back (j * k : Nat) xs.length)
def oddOut (back : Bool) (xs : List C) (j : Nat) : Option C := (collect (oddTerm back xs j) xs.length).bind fun t => csumN t xs.length

/-- The two numbers that a butterfly makes. -/
def bfTurn (back : Bool) (n : Nat) (o : List C) (j : Nat) : Option C := cMul (wy back j n) (o.getD j (0, 0))
def bfLo (back : Bool) (n : Nat) (e o : List C) (j : Nat) : Option C := (bfTurn back n o j).bind fun t => cAdd (e.getD j (0, 0)) t
def bfHi (back : Bool) (n : Nat) (e o : List C) (j : Nat) : Option C := (bfTurn back n o j).bind fun t => cSub (e.getD j (0, 0)) t

/-- fft.line: the first number bounds how often it is halved. -/
def lineP : Nat → Bool → List C → Option (List C)
  | 0, _, _ => none
  | f + 1, back, xs =>
    if xs.length % 2 = 1 then collect (oddOut back xs) xs.length
    else
      (lineP f back (partN xs 0 (xs.length / 2))).bind fun e => (lineP f back (partN xs 1 (xs.length / 2))).bind fun o =>
      (collect (bfLo back xs.length e o) (xs.length / 2)).bind fun a => (collect (bfHi back xs.length e o) (xs.length / 2)).bind fun b => some (a ++ b)

theorem lineP_length {f : Nat} {back : Bool} {xs r : List C} (h : lineP f back xs = some r) : r.length = xs.length := by
  cases f with
  | zero => simp [lineP] at h
  | succ f =>
    unfold lineP at h
    split at h
    · exact (collect_some h (0, 0)).1
    · simp only [Option.bind_eq_some_iff, Option.some.injEq] at h
      obtain ⟨e, _, o, _, a, ha, b, hb, rfl⟩ := h
      rw [List.length_append, (collect_some ha (0, 0)).1, (collect_some hb (0, 0)).1]
      omega

/-- The list that a butterfly's loop fills from two sides: j of each half are there. -/
def halves (l : List C) (h j : Nat) : List C := (List.range l.length).map fun i => if i < j ∨ h ≤ i ∧ i < h + j then l.getD i (0, 0) else (0, 0)

theorem halves_length (l : List C) (h j : Nat) : (halves l h j).length = l.length := by simp [halves]
theorem halves_zero (l : List C) (h : Nat) : halves l h 0 = List.replicate l.length (0, 0) := by
  apply List.ext_getElem?; intro i
  by_cases hi : i < l.length
  · have : ¬ (h ≤ i ∧ i < h) := by omega
    simp [halves, hi, this]
  · simp [halves, hi]
theorem halves_all (l : List C) (h : Nat) (hl : l.length = 2 * h) : halves l h h = l := by
  apply List.ext_getElem?; intro i
  by_cases hi : i < l.length
  · have : i < h ∨ h ≤ i ∧ i < h + h := by omega
    simp [halves, hi, this, List.getD_eq_getElem?_getD]
  · simp [halves, hi]
theorem halves_succ (l : List C) (h j : Nat) (hj : j < h) : ((halves l h j).set j (l.getD j (0, 0))).set (j + h) (l.getD (j + h) (0, 0)) = halves l h (j + 1) := by
  apply List.ext_getElem?; intro i
  simp only [halves, List.getElem?_set, List.length_set, List.length_map, List.length_range, List.getElem?_map]
  by_cases hi : i < l.length
  · by_cases h1 : j + h = i
    · subst h1; simp [hi]; omega
    · by_cases h2 : j = i
      · subst h2; simp [hi]; intro h0; omega
      · have : (i < j + 1 ∨ h ≤ i ∧ i < h + (j + 1)) ↔ (i < j ∨ h ≤ i ∧ i < h + j) := by omega
        simp [h1, h2, hi, this]
  · by_cases h1 : j + h = i
    · subst h1; simp [hi]
    · by_cases h2 : j = i
      · subst h2; simp [hi]; intro h0; omega
      · simp [h1, h2, hi]

end Go.Proofs.Ytdeigbbilcjgjaa
