/-
  The transforms of boxes of sides 1, 2, 4 with whole numbers are exact.
-/
import Derived.Test.YtdeigbbilcjgjaaEx
import Derived.Test.YtdeigbbilcjgjaaWf
import Derived.Test.YtdeigbbilcjgjaaWj
namespace Go.Proofs.Ytdeigbbilcjgjaa
set_option exponentiation.threshold 5000
set_option linter.unusedVariables false
set_option linter.unusedSimpArgs false

/-- The quarters of a turn. -/
def w4 (back : Bool) (j : Nat) : Cx :=
  if j % 4 = 0 then ⟨1, 0⟩ else if j % 4 = 1 then ⟨0, if back then -1 else 1⟩ else if j % 4 = 2 then ⟨-1, 0⟩ else ⟨0, if back then 1 else -1⟩
def wz (back : Bool) (n j : Nat) : Cx := w4 back (j * (4 / n))

theorem w4_mod (back : Bool) (j : Nat) : w4 back j = w4 back (j % 4) := by unfold w4; rw [Nat.mod_mod]
theorem w4_U (back : Bool) (j : Nat) : U4 (w4 back j) := by
  rw [w4_mod]
  have h : j % 4 < 4 := Nat.mod_lt _ (by omega)
  generalize j % 4 = q at h
  rcases (by omega : q = 0 ∨ q = 1 ∨ q = 2 ∨ q = 3) with h | h | h | h <;> subst h <;> cases back <;> simp [w4, U4]
theorem w4_add (back : Bool) (i j : Nat) : w4 back (i + j) = w4 back i * w4 back j := by
  rw [w4_mod back (i + j), w4_mod back i, w4_mod back j, Nat.add_mod]
  have h : i % 4 < 4 := Nat.mod_lt _ (by omega)
  have h' : j % 4 < 4 := Nat.mod_lt _ (by omega)
  generalize i % 4 = q at h ⊢
  generalize j % 4 = r at h' ⊢
  rcases (by omega : q = 0 ∨ q = 1 ∨ q = 2 ∨ q = 3) with h | h | h | h <;> rcases (by omega : r = 0 ∨ r = 1 ∨ r = 2 ∨ r = 3) with h' | h' | h' | h' <;> subst h <;> subst h' <;> cases back <;> rfl

/-- The bits of a quarter turn say what it is. -/
def WV (c : C) (y : Cx) : Prop := val c.1 = some (y.re * 2 ^ 1074) ∧ val c.2 = some (y.im * 2 ^ 1074)
theorem tw_0 : WV (tw 0) ⟨1, 0⟩ := ⟨by decide +kernel, by decide +kernel⟩
theorem tw_1 : WV (tw 48) ⟨0, 1⟩ := ⟨by decide +kernel, by decide +kernel⟩
theorem tw_2 : WV (tw 96) ⟨-1, 0⟩ := ⟨by decide +kernel, by decide +kernel⟩
theorem tw_3 : WV (tw 144) ⟨0, -1⟩ := ⟨by decide +kernel, by decide +kernel⟩
theorem tw_0' : WV ((tw 0).1, fNeg (tw 0).2) ⟨1, 0⟩ := ⟨by decide +kernel, by decide +kernel⟩
theorem tw_1' : WV ((tw 48).1, fNeg (tw 48).2) ⟨0, -1⟩ := ⟨by decide +kernel, by decide +kernel⟩
theorem wy_01 (back : Bool) : WV (wy back (0 : Nat) 1) ⟨1, 0⟩ := by cases back; exact tw_0; exact tw_0'
theorem wy_02 (back : Bool) : WV (wy back (0 : Nat) 2) ⟨1, 0⟩ := by cases back; exact tw_0; exact tw_0'
theorem wy_04 (back : Bool) : WV (wy back (0 : Nat) 4) ⟨1, 0⟩ := by cases back; exact tw_0; exact tw_0'
theorem wy_14 (back : Bool) : WV (wy back (1 : Nat) 4) (w4 back 1) := by cases back; exact tw_1; exact tw_1'

/-- A way of making rows: exact. -/
def RowEx (f : List C → Option (List C)) (n u u' B B' : Nat) (w : Nat → Cx) : Prop := ∀ (xs : List C) (X : Nat → Cx), xs.length = n → (∀ k, k < n → EZ u B (xs.getD k (0, 0)) (X k)) →
  ∃ r, f xs = some r ∧ r.length = n ∧ ∀ j, j < n → EZ u' B' (r.getD j (0, 0)) (ssum n fun k => w (j * k) * X k)

theorem cx_one_mul (a : Cx) : (⟨1, 0⟩ : Cx) * a = a := by
  have : (⟨1, 0⟩ : Cx) = 1 := rfl
  rw [this]; (refine Cx.ext' ?_ ?_ <;> simp only [Cx.add_re, Cx.add_im, Cx.sub_re, Cx.sub_im, Cx.neg_re, Cx.neg_im, Cx.mul_re, Cx.mul_im, Cx.zero_re, Cx.zero_im, Cx.one_re, Cx.one_im] <;> grind)
theorem cx_mul_one (a : Cx) : a * (⟨1, 0⟩ : Cx) = a := by
  have : (⟨1, 0⟩ : Cx) = 1 := rfl
  rw [this]; (refine Cx.ext' ?_ ?_ <;> simp only [Cx.add_re, Cx.add_im, Cx.sub_re, Cx.sub_im, Cx.neg_re, Cx.neg_im, Cx.mul_re, Cx.mul_im, Cx.zero_re, Cx.zero_im, Cx.one_re, Cx.one_im] <;> grind)
theorem EZ.zero (u : Nat) : EZ u 0 (0, 0) 0 := by
  have h : val 0 = some 0 := by decide +kernel
  refine ⟨⟨?_, ?_⟩, Nat.le_refl _, Nat.le_refl _⟩
  · show val 0 = some ((0 : Int) * 2 ^ u); rw [h, Int.zero_mul]
  · show val 0 = some ((0 : Int) * 2 ^ u); rw [h, Int.zero_mul]

theorem csum_ex {u B : Nat} (hu : u ≤ 1100) {ts : List C} {T : Nat → Cx} (n : Nat) (h : ∀ k, k < n → EZ u B (ts.getD k (0, 0)) (T k)) (hB : n * B < 2 ^ 53) :
    ∃ r, csumN ts n = some r ∧ EZ u (n * B) r (ssum n T) := by
  induction n with
  | zero => exact ⟨(0, 0), rfl, by rw [Nat.zero_mul]; exact EZ.zero u⟩
  | succ n ih =>
    have e : (n + 1) * B = n * B + B := by rw [Nat.add_mul, Nat.one_mul]
    obtain ⟨s, s1, s2⟩ := ih (fun k hk => h k (by omega)) (by omega)
    obtain ⟨r, r1, r2⟩ := s2.add (h n (by omega)) hu (by omega)
    exact ⟨r, by simp only [csumN, s1, Option.bind_some, r1], by rw [e]; exact r2⟩

/-- One number is its own transform. -/
theorem line_one (f : Nat) (back : Bool) (u B : Nat) (hu : u ≤ 1100) (hB : B < 2 ^ 53) (xs : List C) (X : Cx) (hl : xs.length = 1) (hx : EZ u B (xs.getD 0 (0, 0)) X) :
    ∃ r, lineP (f + 1) back xs = some r ∧ r.length = 1 ∧ EZ u B (r.getD 0 (0, 0)) X := by
  obtain ⟨t, t1, t2⟩ := hx.mulR (wy_01 back) (Or.inl ⟨rfl, rfl⟩) hu hB
  rw [cx_mul_one] at t2
  obtain ⟨r, r1, r2⟩ := csum_ex (u := u) (B := B) hu (ts := [t]) (T := fun _ => X) 1 (fun k hk => by obtain rfl : k = 0 := (by omega); exact t2) (by omega)
  refine ⟨[r], ?_, rfl, ?_⟩
  · have hc : collect (oddTerm back xs 0) 1 = some [t] := by
      have : oddTerm back xs 0 0 = some t := by unfold oddTerm; rw [hl]; exact t1
      simp [collect, this]
    have ho : oddOut back xs 0 = some r := by unfold oddOut; rw [hl, hc, Option.bind_some, r1]
    unfold lineP
    rw [hl, if_pos rfl]
    simp [collect, ho]
  · have e : ssum 1 (fun _ => X) = X := by simp only [ssum]; (refine Cx.ext' ?_ ?_ <;> simp only [Cx.add_re, Cx.add_im, Cx.sub_re, Cx.sub_im, Cx.neg_re, Cx.neg_im, Cx.mul_re, Cx.mul_im, Cx.zero_re, Cx.zero_im, Cx.one_re, Cx.one_im] <;> grind)
    rw [e, Nat.one_mul] at r2; exact r2

theorem collect_ex {f : Nat → Option C} {P : Nat → C → Prop} (n : Nat) (h : ∀ j, j < n → ∃ r, f j = some r ∧ P j r) : ∃ l, collect f n = some l ∧ l.length = n ∧ ∀ j, j < n → P j (l.getD j (0, 0)) := by
  have : ∃ l, collect f n = some l := by
    induction n with
    | zero => exact ⟨[], rfl⟩
    | succ n ih =>
      obtain ⟨l, hl⟩ := ih (fun j hj => h j (by omega))
      obtain ⟨r, hr, _⟩ := h n (by omega)
      exact ⟨l ++ [r], by simp [collect, hl, hr]⟩
  obtain ⟨l, hl⟩ := this
  refine ⟨l, hl, (collect_some hl (0, 0)).1, fun j hj => ?_⟩
  obtain ⟨r, hr, hp⟩ := h j hj
  have := (collect_some hl (0, 0)).2 j hj
  rw [hr] at this
  cases this; exact hp

/-- A butterfly of two exact halves. -/
theorem line_two (f : Nat) (back : Bool) (n h u B : Nat) (hu : u ≤ 1100) (hB : 2 * B < 2 ^ 53) (hn : n = 2 * h) (h0 : 0 < h) (xs : List C) (hl : xs.length = n) (E O W : Nat → Cx)
    (he : ∃ r, lineP f back (partN xs 0 h) = some r ∧ r.length = h ∧ ∀ j, j < h → EZ u B (r.getD j (0, 0)) (E j))
    (ho : ∃ r, lineP f back (partN xs 1 h) = some r ∧ r.length = h ∧ ∀ j, j < h → EZ u B (r.getD j (0, 0)) (O j))
    (hw : ∀ j, j < h → WV (wy back (j : Nat) n) (W j) ∧ U4 (W j)) :
    ∃ r, lineP (f + 1) back xs = some r ∧ r.length = n ∧ ∀ j, j < h → EZ u (2 * B) (r.getD j (0, 0)) (E j + W j * O j) ∧ EZ u (2 * B) (r.getD (j + h) (0, 0)) (E j - W j * O j) := by
  obtain ⟨e, e1, e2, e3⟩ := he
  obtain ⟨o, o1, o2, o3⟩ := ho
  have hh : n / 2 = h := by omega
  obtain ⟨a, a1, a2, a3⟩ := collect_ex (f := bfLo back n e o) (P := fun j r => EZ u (B + B) r (E j + W j * O j)) h (by
    intro j hj
    obtain ⟨t, t1, t2⟩ := (o3 j hj).mulL (hw j hj).1 (hw j hj).2 hu (by omega)
    obtain ⟨r, r1, r2⟩ := (e3 j hj).add t2 hu (by omega)
    refine ⟨r, ?_, r2⟩
    unfold bfLo bfTurn; rw [t1, Option.bind_some, r1])
  obtain ⟨b, b1, b2, b3⟩ := collect_ex (f := bfHi back n e o) (P := fun j r => EZ u (B + B) r (E j - W j * O j)) h (by
    intro j hj
    obtain ⟨t, t1, t2⟩ := (o3 j hj).mulL (hw j hj).1 (hw j hj).2 hu (by omega)
    obtain ⟨r, r1, r2⟩ := (e3 j hj).sub t2 hu (by omega)
    refine ⟨r, ?_, r2⟩
    unfold bfHi bfTurn; rw [t1, Option.bind_some, r1])
  refine ⟨a ++ b, ?_, by rw [List.length_append, a2, b2, hn]; omega, fun j hj => ⟨?_, ?_⟩⟩
  · unfold lineP
    rw [hl, if_neg (by omega), hh, e1, Option.bind_some, o1, Option.bind_some, a1, Option.bind_some, b1, Option.bind_some]
  · have := a3 j hj
    rw [← Nat.two_mul] at this
    rw [List.getD_eq_getElem?_getD, List.getElem?_append_left (by omega), ← List.getD_eq_getElem?_getD]; exact this
  · have := b3 j hj
    rw [← Nat.two_mul] at this
    rw [List.getD_eq_getElem?_getD, List.getElem?_append_right (by omega), ← List.getD_eq_getElem?_getD, a2, Nat.add_sub_cancel]; exact this

theorem line_n2 (f : Nat) (back : Bool) (u B : Nat) (hu : u ≤ 1100) (hB : 2 * B < 2 ^ 53) (xs : List C) (X : Nat → Cx) (hl : xs.length = 2) (hx : ∀ k, k < 2 → EZ u B (xs.getD k (0, 0)) (X k)) :
    ∃ r, lineP (f + 2) back xs = some r ∧ r.length = 2 ∧ EZ u (2 * B) (r.getD 0 (0, 0)) (X 0 + X 1) ∧ EZ u (2 * B) (r.getD 1 (0, 0)) (X 0 - X 1) := by
  obtain ⟨r, r1, r2, r3⟩ := line_two (f + 1) back 2 1 u B hu hB rfl (by omega) xs hl (fun _ => X 0) (fun _ => X 1) (fun _ => ⟨1, 0⟩)
    (by
      obtain ⟨r, a, b, c⟩ := line_one f back u B hu (by omega) (partN xs 0 1) (X 0) (by simp [partN]) (hx 0 (by omega))
      exact ⟨r, a, b, fun j hj => by obtain rfl : j = 0 := (by omega); exact c⟩)
    (by
      obtain ⟨r, a, b, c⟩ := line_one f back u B hu (by omega) (partN xs 1 1) (X 1) (by simp [partN]) (hx 1 (by omega))
      exact ⟨r, a, b, fun j hj => by obtain rfl : j = 0 := (by omega); exact c⟩)
    (fun j hj => by obtain rfl : j = 0 := (by omega); exact ⟨wy_02 back, Or.inl ⟨rfl, rfl⟩⟩)
  have := r3 0 (by omega)
  rw [cx_one_mul] at this
  exact ⟨r, r1, r2, this.1, this.2⟩

theorem line_n4 (f : Nat) (back : Bool) (u B : Nat) (hu : u ≤ 1100) (hB : 4 * B < 2 ^ 53) (xs : List C) (X : Nat → Cx) (hl : xs.length = 4) (hx : ∀ k, k < 4 → EZ u B (xs.getD k (0, 0)) (X k)) :
    ∃ r, lineP (f + 3) back xs = some r ∧ r.length = 4 ∧ EZ u (4 * B) (r.getD 0 (0, 0)) (X 0 + X 2 + (X 1 + X 3)) ∧ EZ u (4 * B) (r.getD 1 (0, 0)) (X 0 - X 2 + w4 back 1 * (X 1 - X 3)) ∧
      EZ u (4 * B) (r.getD 2 (0, 0)) (X 0 + X 2 - (X 1 + X 3)) ∧ EZ u (4 * B) (r.getD 3 (0, 0)) (X 0 - X 2 - w4 back 1 * (X 1 - X 3)) := by
  obtain ⟨r, r1, r2, r3⟩ := line_two (f + 2) back 4 2 u (2 * B) hu (by omega) rfl (by omega) xs hl (fun j => if j = 0 then X 0 + X 2 else X 0 - X 2) (fun j => if j = 0 then X 1 + X 3 else X 1 - X 3) (fun j => if j = 0 then ⟨1, 0⟩ else w4 back 1)
    (by
      obtain ⟨r, a, b, c, d⟩ := line_n2 f back u B hu (by omega) (partN xs 0 2) (fun k => X (2 * k)) (by simp [partN]) (fun k hk => by
        rcases (by omega : k = 0 ∨ k = 1) with rfl | rfl
        · exact hx 0 (by omega)
        · exact hx 2 (by omega))
      exact ⟨r, a, b, fun j hj => by rcases (by omega : j = 0 ∨ j = 1) with rfl | rfl
                                     · exact c
                                     · exact d⟩)
    (by
      obtain ⟨r, a, b, c, d⟩ := line_n2 f back u B hu (by omega) (partN xs 1 2) (fun k => X (1 + 2 * k)) (by simp [partN]) (fun k hk => by
        rcases (by omega : k = 0 ∨ k = 1) with rfl | rfl
        · exact hx 1 (by omega)
        · exact hx 3 (by omega))
      exact ⟨r, a, b, fun j hj => by rcases (by omega : j = 0 ∨ j = 1) with rfl | rfl
                                     · exact c
                                     · exact d⟩)
    (fun j hj => by rcases (by omega : j = 0 ∨ j = 1) with rfl | rfl
                    · exact ⟨wy_04 back, Or.inl ⟨rfl, rfl⟩⟩
                    · exact ⟨wy_14 back, w4_U back 1⟩)
  have p := r3 0 (by omega)
  have q := r3 1 (by omega)
  simp only [if_true, cx_one_mul, show ¬ (1 : Nat) = 0 by omega, if_false] at p q
  rw [← Nat.mul_assoc] at p q
  exact ⟨r, r1, r2, p.1, q.1, p.2, q.2⟩

def N4 (n : Nat) : Prop := n = 1 ∨ n = 2 ∨ n = 4

theorem w4_0 (back : Bool) : w4 back 0 = 1 := rfl
theorem w4_2 (back : Bool) : w4 back 2 = -1 := rfl
theorem w4_3 (back : Bool) : w4 back 3 = - w4 back 1 := by cases back <;> rfl
theorem row_there (back : Bool) (n u B : Nat) (hn : N4 n) (hu : u ≤ 1100) (hB : n * B < 2 ^ 53) : RowEx (lineP 9 back) n u u B (n * B) (wz back n) := by
  intro xs X hl hx
  rcases hn with rfl | rfl | rfl
  · obtain ⟨r, a, b, c⟩ := line_one 8 back u B hu (by omega) xs (X 0) hl (hx 0 (by omega))
    refine ⟨r, a, b, fun j hj => ?_⟩
    obtain rfl : j = 0 := by omega
    have e : ssum 1 (fun k => wz back 1 (0 * k) * X k) = X 0 := by
      simp only [ssum, wz, Nat.zero_mul, w4_0]; (refine Cx.ext' ?_ ?_ <;> simp only [Cx.add_re, Cx.add_im, Cx.sub_re, Cx.sub_im, Cx.neg_re, Cx.neg_im, Cx.mul_re, Cx.mul_im, Cx.zero_re, Cx.zero_im, Cx.one_re, Cx.one_im] <;> grind)
    rw [e, Nat.one_mul]; exact c
  · obtain ⟨r, a, b, c, d⟩ := line_n2 7 back u B hu (by omega) xs X hl hx
    refine ⟨r, a, b, fun j hj => ?_⟩
    rcases (by omega : j = 0 ∨ j = 1) with rfl | rfl
    · have e : ssum 2 (fun k => wz back 2 (0 * k) * X k) = X 0 + X 1 := by
        simp only [ssum, wz, Nat.zero_mul, w4_0]; (refine Cx.ext' ?_ ?_ <;> simp only [Cx.add_re, Cx.add_im, Cx.sub_re, Cx.sub_im, Cx.neg_re, Cx.neg_im, Cx.mul_re, Cx.mul_im, Cx.zero_re, Cx.zero_im, Cx.one_re, Cx.one_im] <;> grind)
      rw [e]; exact c
    · have e : ssum 2 (fun k => wz back 2 (1 * k) * X k) = X 0 - X 1 := by
        simp only [ssum, wz, Nat.one_mul, Nat.zero_mul, w4_0, show 4 / 2 = 2 by rfl, w4_2]; (refine Cx.ext' ?_ ?_ <;> simp only [Cx.add_re, Cx.add_im, Cx.sub_re, Cx.sub_im, Cx.neg_re, Cx.neg_im, Cx.mul_re, Cx.mul_im, Cx.zero_re, Cx.zero_im, Cx.one_re, Cx.one_im] <;> grind)
      rw [e]; exact d
  · obtain ⟨r, a, b, c, d, e1, f1⟩ := line_n4 6 back u B hu (by omega) xs X hl hx
    have m4 : w4 back 4 = 1 := rfl
    have m6 : w4 back 6 = -1 := rfl
    have m9 : w4 back 9 = w4 back 1 := rfl
    refine ⟨r, a, b, fun j hj => ?_⟩
    rcases (by omega : j = 0 ∨ j = 1 ∨ j = 2 ∨ j = 3) with rfl | rfl | rfl | rfl
    · have e : ssum 4 (fun k => wz back 4 (0 * k) * X k) = X 0 + X 2 + (X 1 + X 3) := by
        simp only [ssum, wz, Nat.zero_mul, w4_0]; (refine Cx.ext' ?_ ?_ <;> simp only [Cx.add_re, Cx.add_im, Cx.sub_re, Cx.sub_im, Cx.neg_re, Cx.neg_im, Cx.mul_re, Cx.mul_im, Cx.zero_re, Cx.zero_im, Cx.one_re, Cx.one_im] <;> grind)
      rw [e]; exact c
    · have e : ssum 4 (fun k => wz back 4 (1 * k) * X k) = X 0 - X 2 + w4 back 1 * (X 1 - X 3) := by
        simp only [ssum, wz, Nat.one_mul, Nat.mul_one, w4_0, show 4 / 4 = 1 by rfl, w4_2, w4_3]; (refine Cx.ext' ?_ ?_ <;> simp only [Cx.add_re, Cx.add_im, Cx.sub_re, Cx.sub_im, Cx.neg_re, Cx.neg_im, Cx.mul_re, Cx.mul_im, Cx.zero_re, Cx.zero_im, Cx.one_re, Cx.one_im] <;> grind)
      rw [e]; exact d
    · have e : ssum 4 (fun k => wz back 4 (2 * k) * X k) = X 0 + X 2 - (X 1 + X 3) := by
        simp only [ssum, wz, Nat.mul_one, Nat.mul_zero, show 4 / 4 = 1 by rfl, show 2 * 2 = 4 by rfl, show 2 * 3 = 6 by rfl, w4_0, w4_2, m4, m6]; (refine Cx.ext' ?_ ?_ <;> simp only [Cx.add_re, Cx.add_im, Cx.sub_re, Cx.sub_im, Cx.neg_re, Cx.neg_im, Cx.mul_re, Cx.mul_im, Cx.zero_re, Cx.zero_im, Cx.one_re, Cx.one_im] <;> grind)
      rw [e]; exact e1
    · have e : ssum 4 (fun k => wz back 4 (3 * k) * X k) = X 0 - X 2 - w4 back 1 * (X 1 - X 3) := by
        simp only [ssum, wz, Nat.mul_one, Nat.mul_zero, show 4 / 4 = 1 by rfl, show 3 * 2 = 6 by rfl, show 3 * 3 = 9 by rfl, w4_0, w4_3, m6, m9]; (refine Cx.ext' ?_ ?_ <;> simp only [Cx.add_re, Cx.add_im, Cx.sub_re, Cx.sub_im, Cx.neg_re, Cx.neg_im, Cx.mul_re, Cx.mul_im, Cx.zero_re, Cx.zero_im, Cx.one_re, Cx.one_im] <;> grind)
      rw [e]; exact f1

/-- A box. -/
theorem box_ex {f : List C → Option (List C)} {n0 n1 n2 u0 u1 u2 u3 B0 B1 B2 B3 : Nat} {v0 v1 v2 : Nat → Cx} (p0 : 0 < n0) (p1 : 0 < n1) (p2 : 0 < n2)
    (r2 : RowEx f n2 u0 u1 B0 B1 v2) (r1 : RowEx f n1 u1 u2 B1 B2 v1) (r0 : RowEx f n0 u2 u3 B2 B3 v0) (xs : List C) (hL : xs.length = n0 * n1 * n2) (F : Nat → Nat → Nat → Cx)
    (hF : ∀ x y z, x < n0 → y < n1 → z < n2 → EZ u0 B0 (at3 n1 n2 xs x y z) (F x y z)) :
    ∃ ys, boxP f n0 n1 n2 xs = some ys ∧ ys.length = n0 * n1 * n2 ∧ ∀ x y z, x < n0 → y < n1 → z < n2 → EZ u3 B3 (at3 n1 n2 ys x y z) (tr0 n0 v0 (tr1 n1 v1 (tr2 n2 v2 F)) x y z) := by
  have g2 : ∀ x y, ∃ r, x < n0 → y < n1 → f ((List.range n2).map fun z => at3 n1 n2 xs x y z) = some r ∧ ∀ z, z < n2 → EZ u1 B1 (r.getD z (0, 0)) (tr2 n2 v2 F x y z) := by
    intro x y
    by_cases h : x < n0 ∧ y < n1
    · obtain ⟨r, a, b, c⟩ := r2 ((List.range n2).map fun z => at3 n1 n2 xs x y z) (fun z => F x y z) (by simp) (fun k hk => by
        have := hF x y k h.1 h.2 hk
        simpa [hk] using this)
      exact ⟨r, fun _ _ => ⟨a, c⟩⟩
    · exact ⟨[], fun h1 h2 => absurd ⟨h1, h2⟩ h⟩
  obtain ⟨R2, h2⟩ := Classical.skolem.1 (fun x => Classical.skolem.1 (g2 x))
  obtain ⟨ya, a1, a2, a3⟩ := along_2 (f := f) (n0 := n0) p1 p2 hL R2 (fun x y hx hy => (h2 x y hx hy).1)
  have ha : ∀ x y z, x < n0 → y < n1 → z < n2 → EZ u1 B1 (at3 n1 n2 ya x y z) (tr2 n2 v2 F x y z) := fun x y z hx hy hz => by rw [a3 x y z hx hy hz]; exact (h2 x y hx hy).2 z hz
  rw [hL] at a2
  generalize tr2 n2 v2 F = F2 at ha ⊢
  have g1 : ∀ x z, ∃ r, x < n0 → z < n2 → f ((List.range n1).map fun y => at3 n1 n2 ya x y z) = some r ∧ ∀ y, y < n1 → EZ u2 B2 (r.getD y (0, 0)) (tr1 n1 v1 F2 x y z) := by
    intro x z
    by_cases h : x < n0 ∧ z < n2
    · obtain ⟨r, a, b, c⟩ := r1 ((List.range n1).map fun y => at3 n1 n2 ya x y z) (fun y => F2 x y z) (by simp) (fun k hk => by
        have := ha x k z h.1 hk h.2
        simpa [hk] using this)
      exact ⟨r, fun _ _ => ⟨a, c⟩⟩
    · exact ⟨[], fun h1 h2 => absurd ⟨h1, h2⟩ h⟩
  obtain ⟨R1, h1⟩ := Classical.skolem.1 (fun x => Classical.skolem.1 (g1 x))
  obtain ⟨yb, b1, b2, b3⟩ := along_1 (f := f) (n0 := n0) p1 p2 a2 R1 (fun x z hx hz => (h1 x z hx hz).1)
  have hb : ∀ x y z, x < n0 → y < n1 → z < n2 → EZ u2 B2 (at3 n1 n2 yb x y z) (tr1 n1 v1 F2 x y z) := fun x y z hx hy hz => by rw [b3 x y z hx hy hz]; exact (h1 x z hx hz).2 y hy
  rw [a2] at b2
  generalize tr1 n1 v1 F2 = F1 at hb ⊢
  have g0 : ∀ y z, ∃ r, y < n1 → z < n2 → f ((List.range n0).map fun x => at3 n1 n2 yb x y z) = some r ∧ ∀ x, x < n0 → EZ u3 B3 (r.getD x (0, 0)) (tr0 n0 v0 F1 x y z) := by
    intro y z
    by_cases h : y < n1 ∧ z < n2
    · obtain ⟨r, a, b, c⟩ := r0 ((List.range n0).map fun x => at3 n1 n2 yb x y z) (fun x => F1 x y z) (by simp) (fun k hk => by
        have := hb k y z hk h.1 h.2
        simpa [hk] using this)
      exact ⟨r, fun _ _ => ⟨a, c⟩⟩
    · exact ⟨[], fun h1 h2 => absurd ⟨h1, h2⟩ h⟩
  obtain ⟨R0, h0⟩ := Classical.skolem.1 (fun y => Classical.skolem.1 (g0 y))
  obtain ⟨yc, c1, c2, c3⟩ := along_0 (f := f) (n0 := n0) p0 p1 p2 b2 R0 (fun y z hy hz => (h0 y z hy hz).1)
  refine ⟨yc, ?_, by rw [c2, b2], fun x y z hx hy hz => by rw [c3 x y z hx hy hz]; exact (h0 y z hy hz).2 x hx⟩
  unfold boxP
  rw [a1, Option.bind_some, b1, Option.bind_some, c1]

end Go.Proofs.Ytdeigbbilcjgjaa
