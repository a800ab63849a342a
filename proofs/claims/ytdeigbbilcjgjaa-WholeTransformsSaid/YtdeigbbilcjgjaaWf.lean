/-
  The walks of fft.plain, fft.undone, fft.Line, fft.Unline.
-/
import Derived.Test.YtdeigbbilcjgjaaWe
namespace Go.Proofs.Ytdeigbbilcjgjaa
open Go.RowKit
set_option linter.unusedVariables false
set_option linter.unusedSimpArgs false

theorem plain_any (b off n cap : Nat) (xs r : List C) (w : World) (hn : xs.length = n) (h192 : 192 % n = 0) (hlen : n ≤ 192) (hr : lineP 9 false xs = some r)
    (hx : ∀ i, i < n → w.cell? ⟨b, off + i, none⟩ = some (cVal (xs.getD i (0, 0)))) :
    Calls Try.prog 20 #[.slice (some ⟨b, off, none⟩) n cap] w fun e w' => RetArr 35 cVal n r w e w' ∧ Bel w w' := by
  have HC := Lib.hid (fun w1 (h : w1 = w) => line_there 9 b off n cap xs r w1 hn h192 hlen hr (by rw [h]; exact hx))
  clear hn h192 hr hx
  go_enter Try.func20, Try.ntmps20
  go_wp2_with fail
  refine (HC.out _ rfl).mono ?_
  rintro e w' ⟨⟨g, c, rfl, hl, hg, ha⟩, hb⟩
  go_wp2_with fail
  go_ret
  exact ⟨⟨g, c, rfl, hl, hg, ha⟩, hb⟩

/-- fft.undone: a line back, each part divided by the count. -/
def undoneP (xs : List C) : Option (List C) := (lineP 9 true xs).bind fun l => collect (fun i => divC (floatOfInt .f64 l.length) (l.getD i (0, 0))) l.length

theorem undoneP_length {xs r : List C} (h : undoneP xs = some r) : r.length = xs.length := by
  obtain ⟨l, hl, hc⟩ := Option.bind_eq_some_iff.1 h
  rw [(collect_some hc (0, 0)).1, lineP_length hl]

/-- A list whose first k elements have been replaced by those of another. -/
def mixed (l r : List C) (k : Nat) : List C := (List.range l.length).map fun i => if i < k then r.getD i (0, 0) else l.getD i (0, 0)
theorem mixed_length (l r : List C) (k : Nat) : (mixed l r k).length = l.length := by simp [mixed]
theorem mixed_zero (l r : List C) : mixed l r 0 = l := by
  apply List.ext_getElem?; intro i
  by_cases hi : i < l.length <;> simp [mixed, hi, List.getD_eq_getElem?_getD]
theorem mixed_all (l r : List C) (h : r.length = l.length) : mixed l r l.length = r := by
  apply List.ext_getElem?; intro i
  by_cases hi : i < l.length
  · simp [mixed, hi, List.getD_eq_getElem?_getD, show i < r.length by omega]
  · simp [mixed, hi, show r.length ≤ i by omega]
theorem mixed_get (l r : List C) (k : Nat) (h : k < l.length) : (mixed l r k).getD k (0, 0) = l.getD k (0, 0) := by simp [mixed, h]
theorem mixed_succ (l r : List C) (k : Nat) : (mixed l r k).set k (r.getD k (0, 0)) = mixed l r (k + 1) := by
  apply List.ext_getElem?; intro i
  simp only [mixed, List.getElem?_set, List.length_map, List.length_range, List.getElem?_map]
  by_cases hi : i < l.length
  · by_cases hik : k = i
    · subst hik; simp [hi]
    · simp [hik, hi, show (i < k + 1) = (i < k) by simp; omega]
  · by_cases hik : k = i
    · subst hik; simp [hi]
    · simp [hik, hi]

set_option maxHeartbeats 1000000 in
theorem undone_any (b off n cap : Nat) (xs r : List C) (w : World) (hn : xs.length = n) (h192 : 192 % n = 0) (hlen : n ≤ 192) (hr : undoneP xs = some r)
    (hx : ∀ i, i < n → w.cell? ⟨b, off + i, none⟩ = some (cVal (xs.getD i (0, 0)))) :
    Calls Try.prog 21 #[.slice (some ⟨b, off, none⟩) n cap] w fun e w' => RetArr 35 cVal n r w e w' ∧ Bel w w' := by
  obtain ⟨l, hl, hc⟩ := Option.bind_eq_some_iff.1 hr
  have HLL : Hid (l.length = n) := by unfold Hid; rw [lineP_length hl, hn]
  rw [HLL.out] at hc
  have HCC : Hid (collect (fun i => divC (floatOfInt .f64 n) (l.getD i (0, 0))) n = some r) := hc
  have HRL : Hid (r.length = n) := (collect_some hc (0, 0)).1
  have HC := Lib.hid (fun w1 (h : w1 = w) => line_back 9 b off n cap xs l w1 hn h192 hlen hl (by rw [h]; exact hx))
  clear hn h192 hr hx hc hl
  go_enter Try.func21, Try.ntmps21
  go_wp2_with fail
  refine (HC.out _ rfl).mono ?_
  rintro e w' ⟨⟨g, c, rfl, hl, hg, ha⟩, hb⟩
  go_wp2_with fail
  have HG : Hid (w.heap.size ≤ g) := hg
  obtain ⟨d, hd⟩ : ∃ d, d = floatOfInt .f64 n := ⟨_, rfl⟩
  rw [← hd] at HCC
  rw [← hd]
  have HD : Hid (d = floatOfInt .f64 n) := hd
  have HA : Hid (CArr w' g c (mixed l r 0)) := ha.ext (mixed_zero l r).symm
  have HBW : Hid (Bel w w') := hb
  clear hd ha hg hb
  go_loopw [14] (fun i wr => ∃ j : Nat, j ≤ n ∧ i = .int .i64 j ∧ CArr wr g c (mixed l r j) ∧ Bel w wr) (fun i _ => n - (intOf i).toNat)
  case atStart => exact ⟨0, Nat.zero_le _, rfl, HA.out, HBW.out⟩
  case round =>
    clear HA HBW
    obtain ⟨j, hj, rfl, ha, hbw⟩ := hrel
    by_cases hlt : j < n
    · have hcell := ha.cell (i := j) (by rw [mixed_length, HLL.out]; exact hlt) (0, 0)
      have hfr := ha.frozen j
      rw [mixed_get l r j (by rw [HLL.out]; exact hlt)] at hcell
      have hdv := (collect_some HCC.out (0, 0)).2 j hlt
      have HA : Hid (CArr wr g c (mixed l r j)) := ha
      have HBW : Hid (Bel w wr) := hbw
      clear ha hbw
      generalize hx : l.getD j (0, 0) = x at hcell hdv
      generalize hy : r.getD j (0, 0) = y at hdv
      have HY : Hid (r.getD j (0, 0) = y) := hy
      clear hx hy
      obtain ⟨y1, h1, h2⟩ := Option.bind_eq_some_iff.1 hdv
      obtain ⟨y2, h3, h4⟩ := Option.bind_eq_some_iff.1 h2
      have hyy : y = (y1, y2) := (Option.some.inj h4).symm
      subst hyy
      clear hdv h2 h4
      have o1 := fun t w => run_float_arith (P := Try.prog) w .quo t .f64 _ _ _ h1
      have o2 := fun t w => run_float_arith (P := Try.prog) w .quo t .f64 _ _ _ h3
      clear h1 h3
      go_wp2
      go_roundw
      case rel => exact ⟨j + 1, by omega, by go_num, (HA.out.store j (y1, y2)).ext (by rw [← HY.out]; exact mixed_succ l r j), HBW.out.setCell HG.out _⟩
      case measure => simp [intOf]; omega
    · have : j = n := by omega
      subst this
      have HA : Hid (CArr wr g c r) := ha.ext (by rw [← HLL.out]; exact mixed_all l r (by rw [HRL.out, HLL.out]))
      have HBW : Hid (Bel w wr) := hbw
      clear ha hbw
      go_wp2
      go_ret
      exact ⟨⟨g, c, rfl, HRL.out, HG.out, HA.out⟩, HBW.out⟩

theorem divides_yes (n : Nat) (w : World) (h0 : 1 ≤ n) (h1 : n ≤ 192) (h2 : 192 % n = 0) :
    Calls Try.prog 26 #[.int .i64 n] w fun e w' => e = .returned (.bool true) ∧ w = w' := by
  refine (divides_any n w (by omega) (by omega)).mono fun e w' ⟨he, hw⟩ => ⟨?_, hw⟩
  have h3 : (192 : Int) % n = 0 := by have h := congrArg (fun n : Nat => (n : Int)) h2; simpa using h
  rw [he, show decide ((1 : Int) ≤ n ∧ (n : Int) ≤ 192 ∧ (192 : Int) % n = 0) = true by simp [h3]; omega]

theorem Line_any (b off n cap : Nat) (xs r : List C) (w : World) (hn : xs.length = n) (h0 : 1 ≤ n) (h192 : 192 % n = 0) (hlen : n ≤ 192) (hr : lineP 9 false xs = some r)
    (hx : ∀ i, i < n → w.cell? ⟨b, off + i, none⟩ = some (cVal (xs.getD i (0, 0)))) :
    Calls Try.prog 13 #[.slice (some ⟨b, off, none⟩) n cap] w fun e w' => (∃ g cap', e = .returned (.tuple #[.slice (some ⟨g, 0, none⟩) n cap', .int .i64 0]) ∧ w.heap.size ≤ g ∧ CArr w' g cap' r) ∧ Bel w w' := by
  have HC := Lib.hid (fun w1 (h : w1 = w) => plain_any b off n cap xs r w1 hn h192 hlen hr (by rw [h]; exact hx))
  have HV := Lib.hid (fun w1 => divides_yes n w1 h0 hlen h192)
  clear hn h192 hr hx
  go_enter Try.func13, Try.ntmps13
  go_wp2_with fail
  refine (HV.out _).mono ?_
  rintro e w' ⟨rfl, rfl⟩
  go_wp2_with fail
  refine (HC.out _ rfl).mono ?_
  rintro e w' ⟨⟨g, c, rfl, hl, hg, ha⟩, hb⟩
  go_wp2_with fail
  go_ret2
  exact ⟨⟨g, c, rfl, hg, ha⟩, hb⟩

theorem Unline_any (b off n cap : Nat) (xs r : List C) (w : World) (hn : xs.length = n) (h0 : 1 ≤ n) (h192 : 192 % n = 0) (hlen : n ≤ 192) (hr : undoneP xs = some r)
    (hx : ∀ i, i < n → w.cell? ⟨b, off + i, none⟩ = some (cVal (xs.getD i (0, 0)))) :
    Calls Try.prog 18 #[.slice (some ⟨b, off, none⟩) n cap] w fun e w' => (∃ g cap', e = .returned (.tuple #[.slice (some ⟨g, 0, none⟩) n cap', .int .i64 0]) ∧ w.heap.size ≤ g ∧ CArr w' g cap' r) ∧ Bel w w' := by
  have HC := Lib.hid (fun w1 (h : w1 = w) => undone_any b off n cap xs r w1 hn h192 hlen hr (by rw [h]; exact hx))
  have HV := Lib.hid (fun w1 => divides_yes n w1 h0 hlen h192)
  clear hn h192 hr hx
  go_enter Try.func18, Try.ntmps18
  go_wp2_with fail
  refine (HV.out _).mono ?_
  rintro e w' ⟨rfl, rfl⟩
  go_wp2_with fail
  refine (HC.out _ rfl).mono ?_
  rintro e w' ⟨⟨g, c, rfl, hl, hg, ha⟩, hb⟩
  go_wp2_with fail
  go_ret2
  exact ⟨⟨g, c, rfl, hg, ha⟩, hb⟩

end Go.Proofs.Ytdeigbbilcjgjaa
