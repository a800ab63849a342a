/-
  The values of float64 words, in units of 2^-1074: what the operations make of them.
-/
import Derived.Test.YtdeigbbilcjgjaaPure
namespace Go.Proofs.Ytdeigbbilcjgjaa

set_option exponentiation.threshold 5000
set_option linter.unusedVariables false
set_option linter.unusedSimpArgs false

abbrev D : Ieee.Format := Ieee.double

/-- The value of a datum, in units of 2^-1074 (for data whose place is at least -1074). -/
def dval : Ieee.Datum → Option Int
  | .number s m e => some (if s then -((m * 2 ^ (e + 1074).toNat : Nat) : Int) else ((m * 2 ^ (e + 1074).toNat : Nat) : Int))
  | _ => none
/-- The value of a word. -/
def val (b : Nat) : Option Int := dval (D.read b)

theorem D_signWeight : D.signWeight = 2 ^ 63 := rfl
theorem D_binade : D.binade = 2 ^ 52 := rfl
theorem D_infRung : D.infRung = 2047 * 2 ^ 52 := rfl
theorem D_leastPlace : D.leastPlace = -1074 := rfl

theorem read_eq (b : Nat) : D.read b =
    if b % 2 ^ 63 < 2 ^ 52 then .number (b / 2 ^ 63 % 2 == 1) (b % 2 ^ 63) (-1074)
    else if b % 2 ^ 63 < 2047 * 2 ^ 52 then .number (b / 2 ^ 63 % 2 == 1) (2 ^ 52 + b % 2 ^ 63 % 2 ^ 52) (-1074 + ((b % 2 ^ 63 / 2 ^ 52 - 1 : Nat) : Int))
    else if b % 2 ^ 63 = 2047 * 2 ^ 52 then .infinity (b / 2 ^ 63 % 2 == 1)
    else .nan (b / 2 ^ 63 % 2 == 1) (b % 2 ^ 63 - 2047 * 2 ^ 52) := rfl
theorem word_eq (s : Bool) (r : Nat) : D.word s r = if s then 2 ^ 63 + r else r := rfl

/-- What a finite word reads as. -/
theorem read_number {b : Nat} {s : Bool} {m : Nat} {e : Int} (h : D.read b = .number s m e) : -1074 ≤ e ∧ e ≤ 971 ∧ m < 2 ^ 53 := by
  rw [read_eq] at h
  by_cases c1 : b % 2 ^ 63 < 2 ^ 52
  · rw [if_pos c1] at h
    simp only [Ieee.Datum.number.injEq] at h
    omega
  · rw [if_neg c1] at h
    by_cases c2 : b % 2 ^ 63 < 2047 * 2 ^ 52
    · rw [if_pos c2] at h
      simp only [Ieee.Datum.number.injEq] at h
      obtain ⟨_, rfl, rfl⟩ := h
      have : b % 2 ^ 63 / 2 ^ 52 < 2047 := Nat.div_lt_of_lt_mul (by omega)
      have h3 : b % 2 ^ 63 % 2 ^ 52 < 2 ^ 52 := Nat.mod_lt _ (by omega)
      omega
    · rw [if_neg c2] at h
      by_cases c3 : b % 2 ^ 63 = 2047 * 2 ^ 52
      · rw [if_pos c3] at h; cases h
      · rw [if_neg c3] at h; cases h

/-- The word of a rung reads as the rung's number. -/
theorem read_word (s : Bool) (q kept : Nat) (h1 : kept ≤ 2 ^ 53) (h2 : q = 0 ∨ 2 ^ 52 ≤ kept) (h3 : q * 2 ^ 52 + kept < 2047 * 2 ^ 52) :
    val (D.word s (q * 2 ^ 52 + kept)) = some (if s then -((kept * 2 ^ q : Nat) : Int) else ((kept * 2 ^ q : Nat) : Int)) := by
  have hlt : q * 2 ^ 52 + kept < 2 ^ 63 := by omega
  have hw : D.word s (q * 2 ^ 52 + kept) % 2 ^ 63 = q * 2 ^ 52 + kept := by
    rw [word_eq]
    split <;> omega
  have hs : (D.word s (q * 2 ^ 52 + kept) / 2 ^ 63 % 2 == 1) = s := by
    rw [word_eq]
    split
    · rename_i h; rw [h]
      have : (2 ^ 63 + (q * 2 ^ 52 + kept)) / 2 ^ 63 = 1 := by omega
      rw [this]; rfl
    · rename_i h
      have : (q * 2 ^ 52 + kept) / 2 ^ 63 = 0 := by omega
      rw [this]; simp at h; rw [h]; rfl
  unfold val
  rw [read_eq, hw, hs]
  by_cases h : q * 2 ^ 52 + kept < 2 ^ 52
  · rw [if_pos h]
    have hq : q = 0 := by omega
    subst hq
    simp [dval]
  · rw [if_neg h, if_pos h3]
    simp only [dval, Option.some.injEq]
    have key : (2 ^ 52 + (q * 2 ^ 52 + kept) % 2 ^ 52) * 2 ^ (-1074 + (((q * 2 ^ 52 + kept) / 2 ^ 52 - 1 : Nat) : Int) + 1074).toNat = kept * 2 ^ q := by
      by_cases h53 : kept = 2 ^ 53
      · subst h53
        have e1 : (q * 2 ^ 52 + 2 ^ 53) % 2 ^ 52 = 0 := by omega
        have e2 : (q * 2 ^ 52 + 2 ^ 53) / 2 ^ 52 = q + 2 := by omega
        rw [e1, e2]
        have e3 : (-1074 + ((q + 2 - 1 : Nat) : Int) + 1074).toNat = q + 1 := by omega
        rw [e3, Nat.pow_succ 2 q]; omega
      · have hk : 2 ^ 52 ≤ kept := by omega
        have e1 : (q * 2 ^ 52 + kept) % 2 ^ 52 = kept - 2 ^ 52 := by omega
        have e2 : (q * 2 ^ 52 + kept) / 2 ^ 52 = q + 1 := by omega
        rw [e1, e2]
        have e3 : (-1074 + ((q + 1 - 1 : Nat) : Int) + 1074).toNat = q := by omega
        rw [e3]
        have : 2 ^ 52 + (kept - 2 ^ 52) = kept := by omega
        rw [this]
    rw [key]

theorem cut_eq (s : Bool) (n drop : Nat) : Ieee.Toward.even.cut s n drop =
    n / 2 ^ min drop (n.log2 + 2) + (decide (2 ^ min drop (n.log2 + 2) < 2 * (n % 2 ^ min drop (n.log2 + 2))) || (2 ^ min drop (n.log2 + 2) == 2 * (n % 2 ^ min drop (n.log2 + 2)) && n / 2 ^ min drop (n.log2 + 2) % 2 == 1)).toNat := by
  unfold Ieee.Toward.cut
  simp only [Nat.shiftLeft_eq, Nat.one_mul]

/-- To the nearest whole number of units 2^drop. -/
theorem cut_near (s : Bool) (n drop : Nat) :
    2 * (Ieee.Toward.even.cut s n drop * 2 ^ drop) ≤ 2 * n + 2 ^ drop ∧ 2 * n ≤ 2 * (Ieee.Toward.even.cut s n drop * 2 ^ drop) + 2 ^ drop ∧
    (n % 2 ^ drop = 0 → Ieee.Toward.even.cut s n drop * 2 ^ drop = n) ∧ n / 2 ^ drop ≤ Ieee.Toward.even.cut s n drop ∧ Ieee.Toward.even.cut s n drop ≤ n / 2 ^ drop + 1 := by
  rw [cut_eq]
  by_cases hd : drop ≤ n.log2 + 2
  · rw [Nat.min_eq_left hd]
    have hp : 0 < 2 ^ drop := Nat.two_pow_pos _
    generalize 2 ^ drop = g at hp
    have h1 : n = g * (n / g) + n % g := (Nat.div_add_mod n g).symm
    have h2 : n % g < g := Nat.mod_lt _ hp
    generalize n / g = q at h1
    generalize n % g = r at h1 h2
    have hc : (q + 0) * g = g * q := by rw [Nat.add_zero, Nat.mul_comm]
    have hc1 : (q + 1) * g = g * q + g := by rw [Nat.add_mul, Nat.one_mul, Nat.mul_comm]
    rcases Bool.eq_false_or_eq_true (decide (g < 2 * r) || (g == 2 * r && q % 2 == 1)) with hb | hb
    · rw [hb]
      simp only [Bool.toNat_true, hc1]
      simp only [Bool.or_eq_true, decide_eq_true_eq, Bool.and_eq_true, beq_iff_eq] at hb
      omega
    · rw [hb]
      simp only [Bool.toNat_false, hc]
      simp only [Bool.or_eq_false_iff, decide_eq_false_iff_not] at hb
      omega
  · rw [Nat.min_eq_right (by omega)]
    have hlt : n < 2 ^ (n.log2 + 1) := Nat.lt_log2_self
    have hg : 2 ^ (n.log2 + 2) = 2 * 2 ^ (n.log2 + 1) := by rw [Nat.pow_succ 2 (n.log2 + 1), Nat.mul_comm]
    have hle : 2 ^ (n.log2 + 2) ≤ 2 ^ drop := Nat.pow_le_pow_right (by omega) (by omega)
    have h1 : n / 2 ^ (n.log2 + 2) = 0 := Nat.div_eq_of_lt (by omega)
    have h2 : n % 2 ^ (n.log2 + 2) = n := Nat.mod_eq_of_lt (by omega)
    have h3 : n / 2 ^ drop = 0 := Nat.div_eq_of_lt (by omega)
    have h4 : n % 2 ^ drop = n := Nat.mod_eq_of_lt (by omega)
    rw [h1, h2, h3, h4]
    have hb : (decide (2 ^ (n.log2 + 2) < 2 * n) || (2 ^ (n.log2 + 2) == 2 * n && 0 % 2 == 1)) = false := by simp; omega
    rw [hb]
    simp only [Bool.toNat_false]
    omega

theorem nearest_eq (s : Bool) (mag p : Nat) (h0 : mag ≠ 0) : D.nearest s mag (-2148 + p) =
    D.word s (min ((p + mag.log2 - 1126) * 2 ^ 52 + Ieee.Toward.even.cut s (mag * 2 ^ (p - (1074 + (p + mag.log2 - 1126)))) (1074 + (p + mag.log2 - 1126) - p)) (2047 * 2 ^ 52)) := by
  unfold Ieee.Format.nearest
  rw [if_neg h0]
  have h1 : max (-2148 + (p : Int) + (mag.log2 : Int) - (D.fractionBits : Int)) D.leastPlace = -1074 + ((p + mag.log2 - 1126 : Nat) : Int) := by
    rw [D_leastPlace]
    show max (-2148 + (p : Int) + (mag.log2 : Int) - ((52 : Nat) : Int)) (-1074) = _
    omega
  simp only [h1]
  have h2 : (-1074 + ((p + mag.log2 - 1126 : Nat) : Int) - D.leastPlace).toNat = p + mag.log2 - 1126 := by rw [D_leastPlace]; omega
  have h3 : (-2148 + (p : Int) - (-1074 + ((p + mag.log2 - 1126 : Nat) : Int))).toNat = p - (1074 + (p + mag.log2 - 1126)) := by omega
  have h4 : (-1074 + ((p + mag.log2 - 1126 : Nat) : Int) - (-2148 + (p : Int))).toNat = 1074 + (p + mag.log2 - 1126) - p := by omega
  rw [h2, h3, h4, Nat.shiftLeft_eq]
  rfl

/-- THE ROUNDING: the value of the nearest word to mag * 2^(p - 2148) (below 2^1000), in units of 2^-1074, is within half of a 2^53rd part of it, or of half a unit; and is that very number, if that is a number of 53 digits. -/
theorem nearest_val (s : Bool) (mag p : Nat) (hlt : mag * 2 ^ p < 2 ^ 3148) :
    ∃ v : Nat, val (D.nearest s mag (-2148 + p)) = some (if s then -(v : Int) else (v : Int)) ∧
      2 ^ 53 * (v * 2 ^ 1074) ≤ 2 ^ 53 * (mag * 2 ^ p) + mag * 2 ^ p + 2 ^ 1126 ∧ 2 ^ 53 * (mag * 2 ^ p) ≤ 2 ^ 53 * (v * 2 ^ 1074) + mag * 2 ^ p + 2 ^ 1126 ∧
      (∀ n t, mag * 2 ^ p = n * 2 ^ (1074 + t) → n < 2 ^ 53 → v * 2 ^ 1074 = mag * 2 ^ p) := by
  by_cases h0 : mag = 0
  · subst h0
    have e : D.nearest s 0 (-2148 + p) = D.word s 0 := by unfold Ieee.Format.nearest; rw [if_pos rfl]
    clear hlt
    have h := read_word s 0 0 (by omega) (Or.inl rfl) (by omega)
    simp only [Nat.zero_mul, Nat.zero_add] at h
    refine ⟨0, by rw [e]; exact h, ?_, ?_, fun n t h _ => by rw [Nat.zero_mul, Nat.zero_mul]⟩
    · rw [Nat.zero_mul, Nat.zero_mul, Nat.mul_zero]; exact Nat.zero_le _
    · rw [Nat.zero_mul, Nat.zero_mul, Nat.mul_zero]; exact Nat.zero_le _
  · rw [nearest_eq s mag p h0]
    obtain ⟨L, hL⟩ : ∃ L, L = mag.log2 := ⟨_, rfl⟩
    have hl1 : 2 ^ L ≤ mag := by rw [hL]; exact Nat.log2_self_le h0
    have hl2 : mag < 2 ^ (L + 1) := by rw [hL]; exact Nat.lt_log2_self
    rw [← hL]
    have hLp : L + p < 3148 := by
      have : 2 ^ (L + p) < 2 ^ 3148 := by
        rw [Nat.pow_add]
        exact Nat.lt_of_le_of_lt (Nat.mul_le_mul_right _ hl1) hlt
      exact (Nat.pow_lt_pow_iff_right (Nat.lt_succ_self 1)).1 this
    clear hlt
    have hWlow : 2 ^ (L + p) ≤ mag * 2 ^ p := by rw [Nat.pow_add]; exact Nat.mul_le_mul_right _ hl1
    obtain ⟨q, hq⟩ : ∃ q, q = p + L - 1126 := ⟨_, rfl⟩
    rw [← hq]
    by_cases hA : 1074 + q ≤ p
    · -- all digits are kept
      obtain ⟨up, hup⟩ : ∃ up, up = p - (1074 + q) := ⟨_, rfl⟩
      rw [← hup, show 1074 + q - p = 0 by omega]
      have hc := (cut_near s (mag * 2 ^ up) 0).2.2.1 (by rw [Nat.pow_zero, Nat.mod_one])
      rw [Nat.pow_zero, Nat.mul_one] at hc
      rw [hc]
      have hk1 : mag * 2 ^ up < 2 ^ 53 := by
        have h1 : mag * 2 ^ up < 2 ^ (L + 1) * 2 ^ up := Nat.mul_lt_mul_of_pos_right hl2 (Nat.two_pow_pos _)
        rw [← Nat.pow_add] at h1
        exact Nat.lt_of_lt_of_le h1 (Nat.pow_le_pow_right (by omega) (by omega))
      have hk2 : q = 0 ∨ 2 ^ 52 ≤ mag * 2 ^ up := by
        by_cases hq0 : q = 0
        · exact Or.inl hq0
        · right
          have h1 : 2 ^ L * 2 ^ up ≤ mag * 2 ^ up := Nat.mul_le_mul_right _ hl1
          rw [← Nat.pow_add] at h1
          exact Nat.le_trans (Nat.pow_le_pow_right (by omega) (by omega)) h1
      have hq2 : q ≤ 2021 := by omega
      have hr : q * 2 ^ 52 + mag * 2 ^ up < 2047 * 2 ^ 52 := by omega
      rw [Nat.min_eq_left (by omega), read_word s q _ (by omega) hk2 hr]
      have hv : mag * 2 ^ up * 2 ^ q * 2 ^ 1074 = mag * 2 ^ p := by
        rw [Nat.mul_assoc, Nat.mul_assoc, ← Nat.pow_add, ← Nat.pow_add, show up + (q + 1074) = p by omega]
      refine ⟨mag * 2 ^ up * 2 ^ q, rfl, ?_, ?_, fun _ _ _ _ => hv⟩
      · rw [hv]; omega
      · rw [hv]; omega
    · obtain ⟨drop, hdr⟩ : ∃ drop, drop = 1074 + q - p := ⟨_, rfl⟩
      rw [← hdr, show p - (1074 + q) = 0 by omega, Nat.pow_zero, Nat.mul_one]
      obtain ⟨n1, n2, n3, n4, n5⟩ := cut_near s mag drop
      generalize Ieee.Toward.even.cut s mag drop = c at n1 n2 n3 n4 n5
      have hq2 : q ≤ 2021 := by omega
      have hc1 : c ≤ 2 ^ 53 := by
        have h1 : mag < 2 ^ 53 * 2 ^ drop := by
          rw [← Nat.pow_add]
          exact Nat.lt_of_lt_of_le hl2 (Nat.pow_le_pow_right (by omega) (by omega))
        have h2 : mag / 2 ^ drop < 2 ^ 53 := Nat.div_lt_of_lt_mul (by rw [Nat.mul_comm]; exact h1)
        omega
      have hc2 : q = 0 ∨ 2 ^ 52 ≤ c := by
        by_cases hq0 : q = 0
        · exact Or.inl hq0
        · right
          have h1 : 2 ^ 52 * 2 ^ drop ≤ mag := by
            rw [← Nat.pow_add]
            exact Nat.le_trans (Nat.pow_le_pow_right (by omega) (by omega)) hl1
          have h2 : 2 ^ 52 ≤ mag / 2 ^ drop := (Nat.le_div_iff_mul_le (Nat.two_pow_pos _)).2 h1
          omega
      have hr : q * 2 ^ 52 + c < 2047 * 2 ^ 52 := by omega
      rw [Nat.min_eq_left (by omega), read_word s q c hc1 hc2 hr]
      have hv : c * 2 ^ q * 2 ^ 1074 = c * 2 ^ drop * 2 ^ p := by
        rw [Nat.mul_assoc, Nat.mul_assoc, ← Nat.pow_add, ← Nat.pow_add, show q + 1074 = drop + p by omega]
      -- half a unit, against a 2^53rd part
      have hhalf : 2 ^ 52 * 2 ^ (drop + p) ≤ mag * 2 ^ p + 2 ^ 1126 := by
        by_cases hq0 : q = 0
        · rw [show drop + p = 1074 by omega, ← Nat.pow_add]; omega
        · rw [← Nat.pow_add, show 52 + (drop + p) = L + p by omega]; omega
      rw [Nat.pow_add] at hhalf
      have m1 := Nat.mul_le_mul_right (2 ^ p) n1
      have m2 := Nat.mul_le_mul_right (2 ^ p) n2
      rw [Nat.add_mul, Nat.mul_assoc 2 (c * 2 ^ drop), Nat.mul_assoc 2 mag] at m1
      rw [Nat.add_mul, Nat.mul_assoc 2 (c * 2 ^ drop), Nat.mul_assoc 2 mag] at m2
      refine ⟨c * 2 ^ q, rfl, ?_, ?_, ?_⟩
      · rw [hv]
        generalize c * 2 ^ drop * 2 ^ p = V at *
        generalize mag * 2 ^ p = W at *
        generalize 2 ^ drop * 2 ^ p = U at *
        omega
      · rw [hv]
        generalize c * 2 ^ drop * 2 ^ p = V at *
        generalize mag * 2 ^ p = W at *
        generalize 2 ^ drop * 2 ^ p = U at *
        omega
      · intro n t hn hn53
        rw [hv]
        have hqt : q ≤ t := by
          have h1 : 2 ^ (L + p) < 2 ^ (53 + (1074 + t)) := by
            rw [Nat.pow_add 2 53]
            have : n * 2 ^ (1074 + t) < 2 ^ 53 * 2 ^ (1074 + t) := Nat.mul_lt_mul_of_pos_right hn53 (Nat.two_pow_pos _)
            omega
          have := (Nat.pow_lt_pow_iff_right (a := 2) (by omega)).1 h1
          omega
        have h2 : mag * 2 ^ p = n * 2 ^ (t - q) * 2 ^ drop * 2 ^ p := by
          rw [hn, Nat.mul_assoc, Nat.mul_assoc, ← Nat.pow_add, ← Nat.pow_add, show t - q + (drop + p) = 1074 + t by omega]
        have h3 : mag = n * 2 ^ (t - q) * 2 ^ drop := Nat.eq_of_mul_eq_mul_right (Nat.two_pow_pos p) h2
        rw [n3 (by rw [h3]; exact Nat.mul_mod_left _ _)]

end Go.Proofs.Ytdeigbbilcjgjaa
