/-
  The walks of math/bits' Mul64, LeadingZeros64, Div64, Rem64 at the prime, and of ntt.mul: products modulo the prime.
  The walks of bits.Rem64 at the prime, ntt.mul, add, sub, power, root, Prime, right.
  The walks of ntt.add, sub, power, root, right.
  ntt.line: what it makes, and its walk at an odd count.
-/
import Derived.Test.YtehiabiahipkhaaGreatRows
import Derived.Test.YtehiabiahipkhaaGreatA1
import Derived.WalkKit
import Derived.Lib.Mul64
import Derived.Laws.Bits64b
import Derived.Great.Walk
import Derived.Lib.Hide
import Derived.Shelf.Bits.Mul64
import Derived.Deep.Cut
import Derived.Deep.CutRange
import Derived.Deep.CutBlock
import Derived.Laws.Externs
import Derived.Deep.QuietTactic
import Derived.BigQuiet
import Derived.Deep.RegionHeld3
import Derived.Deep.LoopGhost
namespace Go.Proofs.YtehiabiahipkhaaGreat
open Go.RowKit
set_option linter.unusedVariables false
set_option linter.unusedSimpArgs false

/-- The prime. -/
def pr : Nat := 18446744069414584321
theorem pr_eq : pr = 18446744069414584321 := rfl

set_option maxHeartbeats 1000000 in
theorem mul64_any (x y : Nat) (hx : x < 18446744073709551616) (hy : y < 18446744073709551616) (w : World) :
    Calls Tryz.prog 69 #[.int .u64 x, .int .u64 y] w fun e w' => e = .returned (.tuple #[.int .u64 ((x * y / 18446744073709551616 : Nat) : Int), .int .u64 ((x * y % 18446744073709551616 : Nat) : Int)]) ∧ w = w' := by
  obtain ⟨bd, bt, bw, hhi⟩ := Lib.mul64_hi x y hx hy
  have ba := Lib.half_mul_le (a := x / 4294967296) (b := y / 4294967296) (by omega) (by omega)
  have bb := Lib.half_mul_le (a := x / 4294967296) (b := y % 4294967296) (by omega) (by omega)
  have bc := Lib.half_mul_le (a := x % 4294967296) (b := y / 4294967296) (by omega) (by omega)
  have ba' : x / 4294967296 * (y / 4294967296) < 18446744073709551616 := by omega
  have bb' : x / 4294967296 * (y % 4294967296) < 18446744073709551616 := by omega
  have bc' : x % 4294967296 * (y / 4294967296) < 18446744073709551616 := by omega
  have bh1 : x / 4294967296 * (y / 4294967296) + (x / 4294967296 * (y % 4294967296) + x % 4294967296 * (y % 4294967296) / 4294967296) / 4294967296 < 18446744073709551616 := by omega
  have bh : x / 4294967296 * (y / 4294967296) + (x / 4294967296 * (y % 4294967296) + x % 4294967296 * (y % 4294967296) / 4294967296) / 4294967296 + ((x / 4294967296 * (y % 4294967296) + x % 4294967296 * (y % 4294967296) / 4294967296) % 4294967296 + x % 4294967296 * (y / 4294967296)) / 4294967296 < 18446744073709551616 := by omega
  go_enter Tryz.func69, Tryz.ntmps69
  go_wp2
  simp only [Mul64.maskN x hx, Mul64.maskN y hy, Mul64.divN, Mul64.mulN, Mul64.addN, Mul64.wrapN _ bd, Mul64.wrapN _ bb', Mul64.wrapN _ bt, Mul64.maskN _ bt, Mul64.wrapN _ bc', Mul64.wrapN _ bw, Mul64.wrapN _ ba', Mul64.wrapN _ bh1, Mul64.wrapN _ bh, Mul64.wrapM (x * y)]
  rw [hhi]
  go_ret2
  exact ⟨rfl, rfl⟩

set_option maxRecDepth 100000 in
theorem prLen (w : World) : Calls Tryz.prog 114 #[.int .u64 18446744069414584321] w fun e w' => e = .returned (.int .i64 64) ∧ w = w' := by
  go_enter Tryz.func114, Tryz.ntmps114
  go_wp2
  go_ret
  exact ⟨by kernel_rfl, rfl⟩

theorem prLead (w : World) : Calls Tryz.prog 103 #[.int .u64 18446744069414584321] w fun e w' => e = .returned (.int .i64 0) ∧ w = w' := by
  go_enter Tryz.func103, Tryz.ntmps103
  go_wp2_with fail
  refine (prLen _).mono ?_
  rintro e w' ⟨rfl, rfl⟩
  go_wp2_with fail
  go_ret
  exact ⟨rfl, rfl⟩

theorem dig_low (X u Q R : Nat) (hX : X < 18446744069414584321) (hu : u < 4294967296) (hqr : Q * 4294967295 + R = X) (cc : 4294967296 ≤ Q ∨ 4294967296 * R + u < Q) : X * 4294967296 + u < Q * 18446744069414584321 := by
  rcases cc with cc | cc
  · have : 4294967296 * 18446744069414584321 ≤ Q * 18446744069414584321 := Nat.mul_le_mul_right _ cc
    have : X * 4294967296 + 4294967296 ≤ 18446744069414584321 * 4294967296 := by
      have := Nat.mul_le_mul_right 4294967296 (Nat.succ_le_of_lt hX)
      omega
    omega
  · omega
theorem dig_qr (c X Q R Q' R' : Nat) (hqr : Q * c + R = X) (h1 : Q = Q' + 1) (h2 : R' = R + c) : Q' * c + R' = X := by
  subst h1 h2
  rw [Nat.add_mul, Nat.one_mul] at hqr
  omega
theorem dig_e (Q : Nat) : Q * 18446744069414584321 = Q * 4294967295 * 4294967296 + Q := by
  rw [Nat.mul_assoc]
  have : (18446744069414584321 : Nat) = 4294967295 * 4294967296 + 1 := by decide
  rw [this, Nat.mul_add, Nat.mul_one]
theorem dig_fin (X u Q R : Nat) (hX : X < 18446744069414584321) (hqr : Q * 4294967295 + R = X) (h : 4294967296 ≤ R) : Q * 18446744069414584321 ≤ X * 4294967296 + u := by
  have hq : Q ≤ 4294967296 := by omega
  have hr := Nat.mul_le_mul_right 4294967296 h
  rw [dig_e, ← hqr, Nat.add_mul]
  omega
theorem dig_fin2 (X u Q R : Nat) (hqr : Q * 4294967295 + R = X) (h : ¬ (4294967296 * R + u < Q)) : Q * 18446744069414584321 ≤ X * 4294967296 + u := by omega

theorem wrap_chain (S T u V : Nat) (h : S + V = T + u) (hV : V < 18446744069414584321) : IntKind.u64.wrap ((((T % 18446744073709551616 + u) % 18446744073709551616 : Nat) : Int) - ((S % 18446744073709551616 : Nat) : Int)) = (V : Int) := by
  rw [IntKind.wrap_u64]; omega
theorem dig_le' (P T Q V : Nat) (hv : T - Q * P = V) (h1 : Q * P ≤ T) (h2 : T < (Q + 1) * P) : Q * P + V = T ∧ V < P := by
  rw [Nat.succ_mul] at h2
  generalize Q * P = S at *
  omega
theorem dig_le (X u Q V : Nat) (hv : X * 4294967296 + u - Q * 18446744069414584321 = V) (h1 : Q * 18446744069414584321 ≤ X * 4294967296 + u) (h2 : X * 4294967296 + u < (Q + 1) * 18446744069414584321) : Q * 18446744069414584321 + V = X * 4294967296 + u ∧ V < 18446744069414584321 :=
  dig_le' _ _ _ _ hv h1 h2
theorem dig_alg (P B hi lo u1 u0 Q V Q0 V0 : Nat) (h : lo = u1 * B + u0) (hv : Q * P + V = hi * B + u1) (hv0 : Q0 * P + V0 = V * B + u0) : hi * (B * B) + lo = (Q * B + Q0) * P + V0 := by
  have e1 : (Q * P + V) * B = (hi * B + u1) * B := by rw [hv]
  rw [Nat.add_mul, Nat.add_mul] at e1
  have e2 : (Q * B + Q0) * P = Q * P * B + Q0 * P := by rw [Nat.add_mul, Nat.mul_assoc, Nat.mul_comm B P, ← Nat.mul_assoc]
  have e3 : hi * (B * B) = hi * B * B := (Nat.mul_assoc _ _ _).symm
  rw [e2, e3, h]
  generalize Q * P * B = x1 at *
  generalize hi * B * B = x2 at *
  generalize u1 * B = x3 at *
  generalize V * B = x4 at *
  generalize Q0 * P = x5 at *
  omega
theorem dig_end (hi lo u1 u0 Q V Q0 V0 : Nat) (h1 : lo / 4294967296 = u1) (h0 : lo % 4294967296 = u0) (hv : Q * 18446744069414584321 + V = hi * 4294967296 + u1) (hv0 : Q0 * 18446744069414584321 + V0 = V * 4294967296 + u0) (hl : V0 < 18446744069414584321) :
    (hi * 18446744073709551616 + lo) % 18446744069414584321 = V0 := by
  have a3 : lo = u1 * 4294967296 + u0 := by rw [← h1, ← h0]; exact (Nat.div_add_mod' lo 4294967296).symm
  have e := dig_alg 18446744069414584321 4294967296 hi lo u1 u0 Q V Q0 V0 a3 hv hv0
  have e' : hi * 18446744073709551616 + lo = (Q * 4294967296 + Q0) * 18446744069414584321 + V0 := e
  rw [e', Nat.mul_comm, Nat.mul_add_mod]
  exact Nat.mod_eq_of_lt hl

set_option maxHeartbeats 4000000 in
set_option maxRecDepth 100000 in
theorem div64_any (hi lo : Nat) (h : hi < 18446744069414584321) (h0 : hi ≠ 0) (hl : lo < 18446744073709551616) (w : World) :
    Calls Tryz.prog 92 #[.int .u64 hi, .int .u64 lo, .int .u64 18446744069414584321] w fun e w' => (∃ q, e = .returned (.tuple #[.int .u64 q, .int .u64 (((hi * 18446744073709551616 + lo) % 18446744069414584321 : Nat) : Int)])) ∧ w = w' := by
  have hb : bits .and .u64 18446744069414584321 4294967295 = 1 := by kernel_rfl
  have hor : bits .or .u64 (hi : Int) 0 = hi := by
    have := bits_or_u64_nat hi 0 (by omega) (by omega)
    simpa using this
  have hm := Mul64.maskN lo hl
  have hd : (lo : Int) / 18446744073709551616 = 0 := by omega
  have hw := Mul64.wrapN hi (by omega)
  have hw2 := Mul64.wrapN lo hl
  have hlt : (hi : Int) < 18446744069414584321 := by omega
  have hle : ¬ ((18446744069414584321 : Int) ≤ hi) := by omega
  have hi0 : ¬ ((hi : Int) = 0) := by omega
  obtain ⟨u1, hu1⟩ : ∃ u1, lo / 4294967296 = u1 := ⟨_, rfl⟩
  obtain ⟨u0, hu0⟩ : ∃ u0, lo % 4294967296 = u0 := ⟨_, rfl⟩
  have e1 : (lo : Int) / 4294967296 = u1 := by omega
  rw [hu0] at hm
  obtain ⟨q, hq⟩ : ∃ q, hi / 4294967295 = q := ⟨_, rfl⟩
  obtain ⟨r, hr⟩ : ∃ r, hi % 4294967295 = r := ⟨_, rfl⟩
  have hqr : q * 4294967295 + r = hi := by rw [← hq, ← hr]; exact Nat.div_add_mod' hi 4294967295
  have hr1 : r < 4294967295 := by rw [← hr]; exact Nat.mod_lt _ (by decide)
  have t1 : (hi : Int).tdiv 4294967295 = (q : Int) := by
    rw [Int.tdiv_eq_ediv_of_nonneg (by omega), ← hq]; exact (Int.natCast_ediv hi 4294967295).symm
  clear hq hr
  have t2 := Mul64.wrapN q (by omega)
  have t3 : IntKind.u64.wrap ((q : Int) * 4294967295) = (q : Int) * 4294967295 := by
    have := Mul64.wrapN (q * 4294967295) (by omega)
    rw [Int.natCast_mul] at this; exact this
  have t4 : IntKind.u64.wrap ((hi : Int) - (q : Int) * 4294967295) = r := by
    have e : (hi : Int) - (q : Int) * 4294967295 = (r : Int) := by omega
    rw [e]; exact Mul64.wrapN r (by omega)
  have HH := Lib.hid h
  have HL := Lib.hid hl
  have HQR := Lib.hid hqr
  have HR1 := Lib.hid hr1
  have HU1 := Lib.hid hu1
  have HU0 := Lib.hid hu0
  have HF := Lib.hid (And.intro hb (And.intro hor (And.intro hm (And.intro hd (And.intro hw (And.intro hw2 (And.intro e1 (And.intro t1 (And.intro t2 (And.intro t3 t4))))))))))
  clear h h0 hl hqr hr1 hu1 hu0 hb hor hm hd hw hw2 e1 t1 t2 t3 t4 hlt
  go_enter Tryz.func92, Tryz.ntmps92
  go_wp2_with fail
  refine (prLead _).mono ?_
  rintro e w' ⟨rfl, rfl⟩
  obtain ⟨hb, hor, hm, hd, hw, hw2, e1, t1, t2, t3, t4⟩ := HF.out
  clear HF
  have HB : Hid (u1 < 4294967296) := by have := HL.out; have := HU1.out; unfold Hid; omega
  have HX : Hid (hi < 18446744069414584321) := HH.out
  go_upto_block 0 with fail
  go_cut [15, 16] from 67 to 85 (fun a _ wx => ∃ Q : Nat, a = .int .u64 Q ∧ Q * 18446744069414584321 ≤ hi * 4294967296 + u1 ∧ hi * 4294967296 + u1 < (Q + 1) * 18446744069414584321 ∧ wx = w)
  case first =>
    go_wp2_with fail
    go_loopw [15, 16] (fun a b wr => ∃ Q R : Nat, a = .int .u64 Q ∧ b = .int .u64 R ∧ Q * 4294967295 + R = hi ∧ hi * 4294967296 + u1 < (Q + 1) * 18446744069414584321 ∧ R < 4294967296 ∧ wr = w) (fun a _ _ => (intOf a).toNat)
    case atStart => exact ⟨_, _, rfl, rfl, HQR.out, by have := HQR.out; have := HR1.out; have := HB.out; omega, by have := HR1.out; omega, rfl⟩
    case round =>
      obtain ⟨Q, R, rfl, rfl, hqr, hup, hR, hwr⟩ := hrel
      subst hwr
      have hub := HB.out
      have hX := HX.out
      have f1 := Mul64.wrapN Q (by omega)
      have f2 : IntKind.u64.wrap (4294967296 * (R : Int)) = 4294967296 * (R : Int) := by
        have := Mul64.wrapN (4294967296 * R) (by omega)
        rw [Int.natCast_mul] at this; exact this
      have f3 : IntKind.u64.wrap (4294967296 * (R : Int) + (u1 : Int)) = 4294967296 * (R : Int) + (u1 : Int) := by
        have := Mul64.wrapN (4294967296 * R + u1) (by omega)
        rw [Int.natCast_add, Int.natCast_mul] at this; exact this
      by_cases cc : 4294967296 ≤ Q ∨ 4294967296 * R + u1 < Q
      · obtain ⟨Q', hQ'⟩ : ∃ Q', Q = Q' + 1 := ⟨Q - 1, by omega⟩
        obtain ⟨R', hR'⟩ : ∃ R', R' = R + 4294967295 := ⟨_, rfl⟩
        have f4 : IntKind.u64.wrap ((Q : Int) - 1) = (Q' : Int) := by
          rw [show (Q : Int) - 1 = (Q' : Int) by omega]; exact Mul64.wrapN Q' (by omega)
        have f5 : IntKind.u64.wrap ((R : Int) + 4294967295) = (R' : Int) := by
          rw [show (R : Int) + 4294967295 = (R' : Int) by omega]; exact Mul64.wrapN R' (by omega)
        have hlow : hi * 4294967296 + u1 < (Q' + 1) * 18446744069414584321 := by rw [← hQ']; exact dig_low _ _ Q R hX hub hqr cc
        have hqr' : Q' * 4294967295 + R' = hi := dig_qr _ _ _ _ _ _ hqr hQ' hR'
        have HQ := Lib.hid (And.intro hlow (And.intro hqr' hQ'))
        have HUP := Lib.hid hup
        have HRR := Lib.hid hR'
        by_cases c3 : 4294967296 ≤ R'
        · have g3 : (4294967296 : Int) ≤ R' := by omega
          have hfin : Q' * 18446744069414584321 ≤ hi * 4294967296 + u1 := dig_fin _ _ _ _ hX hqr' c3
          have HFIN := Lib.hid hfin
          clear hlow hqr' hQ' hup hR' hfin hqr hub hX
          by_cases c1 : 4294967296 ≤ Q
          · have g1 : (4294967296 : Int) ≤ Q := by omega
            clear cc c1 c3 hR
            go_wp2_with fail
            go_meet
            exact ⟨Q', rfl, HFIN.out, HQ.out.1, rfl⟩
          · have g1 : ¬ ((4294967296 : Int) ≤ Q) := by omega
            have g2 : 4294967296 * (R : Int) + (u1 : Int) < Q := by omega
            clear cc c1 c3 hR
            go_wp2_with fail
            go_meet
            exact ⟨Q', rfl, HFIN.out, HQ.out.1, rfl⟩
        · have g3 : ¬ ((4294967296 : Int) ≤ R') := by omega
          clear hlow hqr' hQ' hup hR' hqr hub hX
          by_cases c1 : 4294967296 ≤ Q
          · have g1 : (4294967296 : Int) ≤ Q := by omega
            have HC3 := Lib.hid c3
            clear cc c1 c3 hR
            go_wp2_with fail
            go_roundw
            case rel => exact ⟨Q', R', rfl, rfl, HQ.out.2.1, HQ.out.1, by have := HC3.out; omega, by first | rfl | trivial⟩
            case measure => have := HQ.out.2.2; simp [intOf]; omega
          · have g1 : ¬ ((4294967296 : Int) ≤ Q) := by omega
            have g2 : 4294967296 * (R : Int) + (u1 : Int) < Q := by omega
            have HC3 := Lib.hid c3
            clear cc c1 c3 hR
            go_wp2_with fail
            go_roundw
            case rel => exact ⟨Q', R', rfl, rfl, HQ.out.2.1, HQ.out.1, by have := HC3.out; omega, by first | rfl | trivial⟩
            case measure => have := HQ.out.2.2; simp [intOf]; omega
      · have g1 : ¬ ((4294967296 : Int) ≤ Q) := by omega
        have g2 : ¬ (4294967296 * (R : Int) + (u1 : Int) < Q) := by omega
        have hfin : Q * 18446744069414584321 ≤ hi * 4294967296 + u1 := dig_fin2 _ _ _ _ hqr (fun h => cc (Or.inr h))
        have HFIN := Lib.hid hfin
        have HUP := Lib.hid hup
        clear hqr hup hR cc hfin hub hX
        go_wp2_with fail
        go_meet
        exact ⟨Q, rfl, HFIN.out, HUP.out, rfl⟩
  case rest =>
  obtain ⟨Q, rfl, hQ1, hQ2, hwc⟩ := hcut
  subst hwc
  obtain ⟨V, hV⟩ : ∃ V, hi * 4294967296 + u1 - Q * 18446744069414584321 = V := ⟨_, rfl⟩
  obtain ⟨hV1, hV2⟩ := dig_le _ _ _ _ hV hQ1 hQ2
  obtain ⟨A, hA⟩ : ∃ A, hi * 4294967296 % 18446744073709551616 = A := ⟨_, rfl⟩
  obtain ⟨A2, hA2⟩ : ∃ A2, (A + u1) % 18446744073709551616 = A2 := ⟨_, rfl⟩
  obtain ⟨A3, hA3⟩ : ∃ A3, Q * 18446744069414584321 % 18446744073709551616 = A3 := ⟨_, rfl⟩
  have a1 : IntKind.u64.wrap ((hi : Int) * 4294967296) = (A : Int) := by
    have := Mul64.wrapM (hi * 4294967296)
    rw [hA, Int.natCast_mul] at this; exact this
  have a2 : IntKind.u64.wrap ((A : Int) + (u1 : Int)) = (A2 : Int) := by
    have := Mul64.wrapM (A + u1)
    rw [hA2, Int.natCast_add] at this; exact this
  have a3 : IntKind.u64.wrap ((Q : Int) * 18446744069414584321) = (A3 : Int) := by
    have := Mul64.wrapM (Q * 18446744069414584321)
    rw [hA3, Int.natCast_mul] at this; exact this
  have a4 : IntKind.u64.wrap ((A2 : Int) - (A3 : Int)) = (V : Int) := by
    have := wrap_chain _ _ _ _ hV1 hV2
    rw [hA, hA2, hA3] at this; exact this
  have HV1 := Lib.hid hV1
  have HX2 := Lib.hid hV2
  have HB2 : Hid (u0 < 4294967296) := by have := HU0.out; unfold Hid; omega
  obtain ⟨q0, hq0⟩ : ∃ q0, V / 4294967295 = q0 := ⟨_, rfl⟩
  obtain ⟨r0, hr0⟩ : ∃ r0, V % 4294967295 = r0 := ⟨_, rfl⟩
  have hqr0 : q0 * 4294967295 + r0 = V := by rw [← hq0, ← hr0]; exact Nat.div_add_mod' V 4294967295
  have hr10 : r0 < 4294967295 := by rw [← hr0]; exact Nat.mod_lt _ (by decide)
  have s1 : (V : Int).tdiv 4294967295 = (q0 : Int) := by
    rw [Int.tdiv_eq_ediv_of_nonneg (by omega), ← hq0]; exact (Int.natCast_ediv V 4294967295).symm
  have hq0l : q0 < 18446744073709551616 := by rw [← hq0]; exact Nat.lt_of_le_of_lt (Nat.div_le_self _ _) (by omega)
  clear hq0 hr0 hV hQ1 hQ2 hA hA2 hA3
  have s2 := Mul64.wrapN q0 hq0l
  have s3 : IntKind.u64.wrap ((q0 : Int) * 4294967295) = (q0 : Int) * 4294967295 := by
    have := Mul64.wrapN (q0 * 4294967295) (by omega)
    rw [Int.natCast_mul] at this; exact this
  have s4 : IntKind.u64.wrap ((V : Int) - (q0 : Int) * 4294967295) = r0 := by
    have e : (V : Int) - (q0 : Int) * 4294967295 = (r0 : Int) := by omega
    rw [e]; exact Mul64.wrapN r0 (by omega)
  have HQR2 := Lib.hid hqr0
  have HR12 := Lib.hid hr10
  clear hqr0 hr10 hV1 hV2 hq0l t1 t2 t3 t4 hb hor hm hd hw hw2 e1 HQR HR1
  go_upto_block 2 with fail
  go_cut [18, 16] from 102 to 120 (fun a _ wx => ∃ Q : Nat, a = .int .u64 Q ∧ Q * 18446744069414584321 ≤ V * 4294967296 + u0 ∧ V * 4294967296 + u0 < (Q + 1) * 18446744069414584321 ∧ wx = wc)
  case first =>
    go_wp2_with fail
    go_loopw [18, 16] (fun a b wr => ∃ Q R : Nat, a = .int .u64 Q ∧ b = .int .u64 R ∧ Q * 4294967295 + R = V ∧ V * 4294967296 + u0 < (Q + 1) * 18446744069414584321 ∧ R < 4294967296 ∧ wr = wc) (fun a _ _ => (intOf a).toNat)
    case atStart => exact ⟨_, _, rfl, rfl, HQR2.out, by have := HQR2.out; have := HR12.out; have := HB2.out; omega, by have := HR12.out; omega, rfl⟩
    case round =>
      obtain ⟨Q, R, rfl, rfl, hqr, hup, hR, hwr⟩ := hrel
      subst hwr
      have hub := HB2.out
      have hX := HX2.out
      have f1 := Mul64.wrapN Q (by omega)
      have f2 : IntKind.u64.wrap (4294967296 * (R : Int)) = 4294967296 * (R : Int) := by
        have := Mul64.wrapN (4294967296 * R) (by omega)
        rw [Int.natCast_mul] at this; exact this
      have f3 : IntKind.u64.wrap (4294967296 * (R : Int) + (u0 : Int)) = 4294967296 * (R : Int) + (u0 : Int) := by
        have := Mul64.wrapN (4294967296 * R + u0) (by omega)
        rw [Int.natCast_add, Int.natCast_mul] at this; exact this
      by_cases cc : 4294967296 ≤ Q ∨ 4294967296 * R + u0 < Q
      · obtain ⟨Q', hQ'⟩ : ∃ Q', Q = Q' + 1 := ⟨Q - 1, by omega⟩
        obtain ⟨R', hR'⟩ : ∃ R', R' = R + 4294967295 := ⟨_, rfl⟩
        have f4 : IntKind.u64.wrap ((Q : Int) - 1) = (Q' : Int) := by
          rw [show (Q : Int) - 1 = (Q' : Int) by omega]; exact Mul64.wrapN Q' (by omega)
        have f5 : IntKind.u64.wrap ((R : Int) + 4294967295) = (R' : Int) := by
          rw [show (R : Int) + 4294967295 = (R' : Int) by omega]; exact Mul64.wrapN R' (by omega)
        have hlow : V * 4294967296 + u0 < (Q' + 1) * 18446744069414584321 := by rw [← hQ']; exact dig_low _ _ Q R hX hub hqr cc
        have hqr' : Q' * 4294967295 + R' = V := dig_qr _ _ _ _ _ _ hqr hQ' hR'
        have HQ := Lib.hid (And.intro hlow (And.intro hqr' hQ'))
        have HUP := Lib.hid hup
        have HRR := Lib.hid hR'
        by_cases c3 : 4294967296 ≤ R'
        · have g3 : (4294967296 : Int) ≤ R' := by omega
          have hfin : Q' * 18446744069414584321 ≤ V * 4294967296 + u0 := dig_fin _ _ _ _ hX hqr' c3
          have HFIN := Lib.hid hfin
          clear hlow hqr' hQ' hup hR' hfin hqr hub hX
          by_cases c1 : 4294967296 ≤ Q
          · have g1 : (4294967296 : Int) ≤ Q := by omega
            clear cc c1 c3 hR
            go_wp2_with fail
            go_meet
            exact ⟨Q', rfl, HFIN.out, HQ.out.1, rfl⟩
          · have g1 : ¬ ((4294967296 : Int) ≤ Q) := by omega
            have g2 : 4294967296 * (R : Int) + (u0 : Int) < Q := by omega
            clear cc c1 c3 hR
            go_wp2_with fail
            go_meet
            exact ⟨Q', rfl, HFIN.out, HQ.out.1, rfl⟩
        · have g3 : ¬ ((4294967296 : Int) ≤ R') := by omega
          clear hlow hqr' hQ' hup hR' hqr hub hX
          by_cases c1 : 4294967296 ≤ Q
          · have g1 : (4294967296 : Int) ≤ Q := by omega
            have HC3 := Lib.hid c3
            clear cc c1 c3 hR
            go_wp2_with fail
            go_roundw
            case rel => exact ⟨Q', R', rfl, rfl, HQ.out.2.1, HQ.out.1, by have := HC3.out; omega, by first | rfl | trivial⟩
            case measure => have := HQ.out.2.2; simp [intOf]; omega
          · have g1 : ¬ ((4294967296 : Int) ≤ Q) := by omega
            have g2 : 4294967296 * (R : Int) + (u0 : Int) < Q := by omega
            have HC3 := Lib.hid c3
            clear cc c1 c3 hR
            go_wp2_with fail
            go_roundw
            case rel => exact ⟨Q', R', rfl, rfl, HQ.out.2.1, HQ.out.1, by have := HC3.out; omega, by first | rfl | trivial⟩
            case measure => have := HQ.out.2.2; simp [intOf]; omega
      · have g1 : ¬ ((4294967296 : Int) ≤ Q) := by omega
        have g2 : ¬ (4294967296 * (R : Int) + (u0 : Int) < Q) := by omega
        have hfin : Q * 18446744069414584321 ≤ V * 4294967296 + u0 := dig_fin2 _ _ _ _ hqr (fun h => cc (Or.inr h))
        have HFIN := Lib.hid hfin
        have HUP := Lib.hid hup
        clear hqr hup hR cc hfin hub hX
        go_wp2_with fail
        go_meet
        exact ⟨Q, rfl, HFIN.out, HUP.out, rfl⟩
  case rest =>
  obtain ⟨Q0, rfl, hQ1, hQ2, hwc⟩ := hcut
  subst hwc
  obtain ⟨V0, hV⟩ : ∃ V0, V * 4294967296 + u0 - Q0 * 18446744069414584321 = V0 := ⟨_, rfl⟩
  obtain ⟨hV1, hV2⟩ := dig_le _ _ _ _ hV hQ1 hQ2
  obtain ⟨B, hA⟩ : ∃ A, V * 4294967296 % 18446744073709551616 = A := ⟨_, rfl⟩
  obtain ⟨B2, hA2⟩ : ∃ A2, (B + u0) % 18446744073709551616 = A2 := ⟨_, rfl⟩
  obtain ⟨B3, hA3⟩ : ∃ A3, Q0 * 18446744069414584321 % 18446744073709551616 = A3 := ⟨_, rfl⟩
  have b1 : IntKind.u64.wrap ((V : Int) * 4294967296) = (B : Int) := by
    have := Mul64.wrapM (V * 4294967296)
    rw [hA, Int.natCast_mul] at this; exact this
  have b2 : IntKind.u64.wrap ((B : Int) + (u0 : Int)) = (B2 : Int) := by
    have := Mul64.wrapM (B + u0)
    rw [hA2, Int.natCast_add] at this; exact this
  have b3 : IntKind.u64.wrap ((Q0 : Int) * 18446744069414584321) = (B3 : Int) := by
    have := Mul64.wrapM (Q0 * 18446744069414584321)
    rw [hA3, Int.natCast_mul] at this; exact this
  have b4 : IntKind.u64.wrap ((B2 : Int) - (B3 : Int)) = (V0 : Int) := by
    have := wrap_chain _ _ _ _ hV1 hV2
    rw [hA, hA2, hA3] at this; exact this
  have hend := dig_end hi lo u1 u0 Q V Q0 V0 HU1.out HU0.out HV1.out hV1 hV2
  have HEND := Lib.hid hend
  clear hend hV hV1 hV2 hA hA2 hA3 hQ1 hQ2 a1 a2 a3 a4 s1 s2 s3 s4
  go_wp2_with fail
  go_ret2
  rw [HEND.out]
  exact ⟨⟨_, rfl⟩, rfl⟩

end Go.Proofs.YtehiabiahipkhaaGreat

namespace Go.Proofs.YtehiabiahipkhaaGreat
open Go.RowKit
set_option linter.unusedVariables false
set_option linter.unusedSimpArgs false

/-- Products, sums, differences, powers modulo the prime. -/
def mulP (a b : Nat) : Nat := a * b % pr
def addP (a b : Nat) : Nat := (a + b) % pr
def subP (a b : Nat) : Nat := (a + (pr - b)) % pr
def powP (x n : Nat) : Nat := x ^ n % pr
theorem pr_pos : 0 < pr := by decide
theorem mulP_lt (a b : Nat) : mulP a b < pr := Nat.mod_lt _ pr_pos
theorem addP_lt (a b : Nat) : addP a b < pr := Nat.mod_lt _ pr_pos
theorem subP_lt (a b : Nat) : subP a b < pr := Nat.mod_lt _ pr_pos
theorem powP_lt (a b : Nat) : powP a b < pr := Nat.mod_lt _ pr_pos
theorem pr_small {a : Nat} (h : a < pr) : a < 18446744073709551616 := Nat.lt_trans h (by decide)

set_option maxRecDepth 100000 in
theorem div64_zero (lo : Nat) (hl : lo < 18446744073709551616) (w : World) :
    Calls Tryz.prog 92 #[.int .u64 0, .int .u64 lo, .int .u64 18446744069414584321] w fun e w' => (∃ q, e = .returned (.tuple #[.int .u64 q, .int .u64 ((lo % 18446744069414584321 : Nat) : Int)])) ∧ Bel w w' := by
  obtain ⟨q, hq⟩ : ∃ q, lo / 18446744069414584321 = q := ⟨_, rfl⟩
  obtain ⟨r, hr⟩ : ∃ r, lo % 18446744069414584321 = r := ⟨_, rfl⟩
  have t1 : (lo : Int).tdiv 18446744069414584321 = (q : Int) := by
    rw [Int.tdiv_eq_ediv_of_nonneg (by omega), ← hq]; exact (Int.natCast_ediv lo 18446744069414584321).symm
  have t2 : (lo : Int).tmod 18446744069414584321 = (r : Int) := by
    rw [Int.tmod_eq_emod_of_nonneg (by omega), ← hr]; exact (Int.natCast_emod lo 18446744069414584321).symm
  have hql : q < 18446744073709551616 := by rw [← hq]; exact Nat.lt_of_le_of_lt (Nat.div_le_self _ _) hl
  have hrl : r < 18446744073709551616 := by rw [← hr]; exact Nat.lt_of_le_of_lt (Nat.mod_le _ _) hl
  have t3 := Mul64.wrapN q hql
  have t4 := Mul64.wrapN r hrl
  rw [hr]
  clear hq hr hql hrl hl
  go_enter Tryz.func92, Tryz.ntmps92
  go_wp2_with fail
  go_big_quiet (fail)
  go_wp2_with fail
  go_ret2
  exact ⟨⟨_, rfl⟩, (Bel.refl w).trans ⟨rfl, rfl, rfl, Nat.le_refl _, fun _ _ => rfl⟩⟩

theorem rem_alg (hi lo p : Nat) : (hi % p * 18446744073709551616 + lo) % p = (hi * 18446744073709551616 + lo) % p := by
  rw [Nat.add_mod, Nat.mul_mod, Nat.mod_mod, ← Nat.mul_mod, ← Nat.add_mod]

set_option maxRecDepth 100000 in
theorem rem64_any (hi lo : Nat) (hh : hi < 18446744073709551616) (hl : lo < 18446744073709551616) (w : World) :
    Calls Tryz.prog 70 #[.int .u64 hi, .int .u64 lo, .int .u64 18446744069414584321] w fun e w' => e = .returned (.int .u64 (((hi * 18446744073709551616 + lo) % pr : Nat) : Int)) ∧ Bel w w' := by
  obtain ⟨r, hr⟩ : ∃ r, hi % 18446744069414584321 = r := ⟨_, rfl⟩
  have t2 : (hi : Int).tmod 18446744069414584321 = (r : Int) := by
    rw [Int.tmod_eq_emod_of_nonneg (by omega), ← hr]; exact (Int.natCast_emod hi 18446744069414584321).symm
  have hrl : r < 18446744069414584321 := by rw [← hr]; exact Nat.mod_lt _ (by decide)
  have t4 := Mul64.wrapN r (Nat.lt_trans hrl (by decide))
  have HC : Hid (∀ w, Calls Tryz.prog 92 #[.int .u64 r, .int .u64 lo, .int .u64 18446744069414584321] w fun e w' => (∃ q : Int, e = .returned (.tuple #[.int .u64 q, .int .u64 (((hi * 18446744073709551616 + lo) % pr : Nat) : Int)])) ∧ Bel w w') := by
    intro w
    have e := rem_alg hi lo pr
    rw [pr_eq, hr] at e
    rw [pr_eq, ← e]
    by_cases h0 : r = 0
    · subst h0
      have := div64_zero lo hl w
      simpa using this
    · exact (div64_any r lo hrl h0 hl w).mono fun _ _ h => ⟨h.1, h.2 ▸ Bel.refl _⟩
  generalize (hi * 18446744073709551616 + lo) % pr = R at HC ⊢
  clear hr hrl hh hl
  go_enter Tryz.func70, Tryz.ntmps70
  go_wp2_with fail
  refine (HC.out _).mono ?_
  rintro e w' ⟨⟨q, rfl⟩, hb⟩
  have HB := Lib.hid hb
  clear hb
  go_wp2_with fail
  go_ret
  exact ⟨rfl, HB.out⟩

theorem nmul_any (a b : Nat) (ha : a < 18446744073709551616) (hb : b < 18446744073709551616) (w : World) :
    Calls Tryz.prog 50 #[.int .u64 a, .int .u64 b] w fun e w' => e = .returned (.int .u64 (mulP a b : Nat)) ∧ Bel w w' := by
  have H1 := Lib.hid (fun w => mul64_any a b ha hb w)
  have h1 : a * b / 18446744073709551616 < 18446744073709551616 := Nat.div_lt_of_lt_mul (Nat.mul_lt_mul'' ha hb)
  have h2 : a * b % 18446744073709551616 < 18446744073709551616 := Nat.mod_lt _ (by decide)
  have H2 := Lib.hid (fun w => rem64_any _ _ h1 h2 w)
  have e : a * b / 18446744073709551616 * 18446744073709551616 + a * b % 18446744073709551616 = a * b := Nat.div_add_mod' _ _
  rw [e] at H2
  generalize a * b / 18446744073709551616 = x at H1 H2
  generalize a * b % 18446744073709551616 = y at H1 H2
  show Calls _ _ _ _ fun e w' => e = .returned (.int .u64 ((a * b % pr : Nat) : Int)) ∧ Bel w w'
  generalize a * b % pr = z at H2 ⊢
  clear h1 h2 e ha hb
  go_enter Tryz.func50, Tryz.ntmps50
  go_wp2_with fail
  refine (H1.out _).mono ?_
  rintro e w' ⟨rfl, rfl⟩
  go_wp2_with fail
  refine (H2.out _).mono ?_
  rintro e w' ⟨rfl, hb⟩
  have HB := Lib.hid hb
  clear hb
  go_wp2_with fail
  go_ret
  exact ⟨rfl, HB.out⟩

end Go.Proofs.YtehiabiahipkhaaGreat

namespace Go.Proofs.YtehiabiahipkhaaGreat
open Go.RowKit
set_option linter.unusedVariables false
set_option linter.unusedSimpArgs false

@[go_sem] theorem run_add64_call (x y : Nat) (w : World) :
    (callFunc 82 #[.int .u64 x, .int .u64 y, .int .u64 0]).run Tryz.prog w =
      .ok (.value (.tuple #[.int .u64 (((x + y) % 18446744073709551616 : Nat) : Int), .int .u64 (((x + y) / 18446744073709551616 : Nat) : Int)])) w := by
  rw [run_callFunc_extern (f := 82) (fn := Tryz.f82) (e := add64Entry) Tryz.func82 (by kernel_rfl) (by kernel_rfl) (by kernel_rfl) (by kernel_rfl), run_add64 x y 0 (by omega) (by omega) (by omega) (by omega)]
  have e1 : ((x : Int) + y + 0) % 18446744073709551616 = (((x + y) % 18446744073709551616 : Nat) : Int) := by
    rw [Int.add_zero, ← Int.natCast_add]; exact (Int.natCast_emod (x + y) 18446744073709551616).symm
  have e2 : ((x : Int) + y + 0) / 18446744073709551616 = (((x + y) / 18446744073709551616 : Nat) : Int) := by
    rw [Int.add_zero, ← Int.natCast_add]; exact (Int.natCast_ediv (x + y) 18446744073709551616).symm
  rw [e1, e2]
  rfl

theorem add_any (a b : Nat) (ha : a < pr) (hb : b < pr) (w : World) :
    Calls Tryz.prog 62 #[.int .u64 a, .int .u64 b] w fun e w' => e = .returned (.int .u64 (addP a b : Nat)) ∧ Bel w w' := by
  obtain ⟨s, hs⟩ : ∃ s, (a + b) % 18446744073709551616 = s := ⟨_, rfl⟩
  obtain ⟨c, hc⟩ : ∃ c, (a + b) / 18446744073709551616 = c := ⟨_, rfl⟩
  obtain ⟨z, hz⟩ : ∃ z, addP a b = z := ⟨_, rfl⟩
  have hcl := fun w => run_add64_call a b w
  rw [hs, hc] at hcl
  rw [hz]
  unfold addP at hz
  rw [pr_eq] at hz ha hb
  by_cases h : 18446744069414584321 ≤ a + b
  · have f : IntKind.u64.wrap ((s : Int) - 18446744069414584321) = (z : Int) := by rw [IntKind.wrap_u64]; omega
    by_cases h2 : 18446744073709551616 ≤ a + b
    · have hc1 : c = 1 := by omega
      clear hs hc hz h h2 ha hb
      subst hc1
      go_enter Tryz.func62, Tryz.ntmps62
      go_wp2_with fail
      go_ret
      exact ⟨rfl, Bel.refl w⟩
    · have hc1 : c = 0 := by omega
      have g : (18446744069414584321 : Int) ≤ s := by omega
      clear hs hc hz h h2 ha hb
      subst hc1
      go_enter Tryz.func62, Tryz.ntmps62
      go_wp2_with fail
      go_ret
      exact ⟨rfl, Bel.refl w⟩
  · have hc1 : c = 0 := by omega
    have hsz : s = z := by omega
    have g : ¬ ((18446744069414584321 : Int) ≤ s) := by omega
    clear hs hc hz h ha hb
    subst hc1 hsz
    go_enter Tryz.func62, Tryz.ntmps62
    go_wp2_with fail
    go_ret
    exact ⟨rfl, Bel.refl w⟩

theorem sub_any (a b : Nat) (ha : a < pr) (hb : b < pr) (w : World) :
    Calls Tryz.prog 63 #[.int .u64 a, .int .u64 b] w fun e w' => e = .returned (.int .u64 (subP a b : Nat)) ∧ Bel w w' := by
  obtain ⟨z, hz⟩ : ∃ z, subP a b = z := ⟨_, rfl⟩
  rw [hz]
  unfold subP at hz
  rw [pr_eq] at hz ha hb
  by_cases h : b ≤ a
  · have g : (b : Int) ≤ a := by omega
    have f : IntKind.u64.wrap ((a : Int) - b) = (z : Int) := by rw [IntKind.wrap_u64]; omega
    clear hz ha hb h
    go_enter Tryz.func63, Tryz.ntmps63
    go_wp2_with fail
    go_ret
    exact ⟨rfl, Bel.refl w⟩
  · have g : ¬ ((b : Int) ≤ a) := by omega
    obtain ⟨y, hy⟩ : ∃ y : Nat, IntKind.u64.wrap ((a : Int) - b) = (y : Int) ∧ (y + 18446744069414584321) % 18446744073709551616 = z := ⟨18446744073709551616 + a - b, by rw [IntKind.wrap_u64]; omega, by omega⟩
    have f := hy.1
    have f2 : IntKind.u64.wrap ((y : Int) + 18446744069414584321) = (z : Int) := by rw [IntKind.wrap_u64]; omega
    clear hz ha hb h hy
    go_enter Tryz.func63, Tryz.ntmps63
    go_wp2_with fail
    go_ret
    exact ⟨rfl, Bel.refl w⟩

/-- The powers' loop: what stands holds the power. -/
def PowI (x n R X N : Nat) : Prop := (R * X ^ N) % pr = x ^ n % pr ∧ R < pr ∧ X < 18446744073709551616
theorem PowI.odd {x n R X N : Nat} (h : PowI x n R X N) (ho : N % 2 = 1) : PowI x n (mulP R X) (mulP X X) (N / 2) := by
  refine ⟨?_, mulP_lt _ _, pr_small (mulP_lt _ _)⟩
  rw [← h.1]
  have e : N = 2 * (N / 2) + 1 := by omega
  unfold mulP
  rw [Nat.mul_mod, Nat.mod_mod, ← Nat.pow_mod, ← Nat.mul_mod]
  conv => rhs; rw [e]
  rw [Nat.pow_succ, Nat.pow_mul, Nat.pow_two, Nat.mul_assoc, Nat.mul_comm X]
theorem PowI.even {x n R X N : Nat} (h : PowI x n R X N) (ho : N % 2 = 0) : PowI x n R (mulP X X) (N / 2) := by
  refine ⟨?_, h.2.1, pr_small (mulP_lt _ _)⟩
  rw [← h.1]
  have e : N = 2 * (N / 2) := by omega
  unfold mulP
  rw [Nat.mul_mod, ← Nat.pow_mod, ← Nat.mul_mod]
  conv => rhs; rw [e]
  rw [Nat.pow_mul, Nat.pow_two]

set_option maxHeartbeats 1000000 in
theorem power_any (x n : Nat) (hx : x < 18446744073709551616) (hn : n < 18446744073709551616) (w : World) :
    Calls Tryz.prog 61 #[.int .u64 x, .int .u64 n] w fun e w' => e = .returned (.int .u64 (powP x n : Nat)) ∧ Bel w w' := by
  have HI : Hid (PowI x n 1 x n) := ⟨by rw [Nat.one_mul], by decide, hx⟩
  have HN := Lib.hid hn
  clear hn hx
  go_enter Tryz.func61, Tryz.ntmps61
  go_wp2_with fail
  go_loopw [0, 1, 5] (fun a b c wr => ∃ X N R : Nat, a = .int .u64 X ∧ b = .int .u64 N ∧ c = .int .u64 R ∧ PowI x n R X N ∧ N < 18446744073709551616 ∧ Bel w wr) (fun _ b _ _ => (intOf b).toNat)
  case atStart => exact ⟨_, _, 1, rfl, rfl, rfl, HI.out, HN.out, Bel.refl w⟩
  case round =>
    obtain ⟨X, N, R, rfl, rfl, rfl, hI, hN, hbw⟩ := hrel
    by_cases h0 : N = 0
    · subst h0
      have HI2 := Lib.hid hI
      have HBW := Lib.hid hbw
      clear hI hbw hN
      go_wp2_with fail
      go_ret
      have h1 := HI2.out.1
      rw [Nat.pow_zero, Nat.mul_one, Nat.mod_eq_of_lt HI2.out.2.1] at h1
      refine ⟨?_, HBW.out⟩
      show Ending.returned (.int .u64 (R : Nat)) = Ending.returned (.int .u64 ((x ^ n % pr : Nat) : Int))
      rw [← h1]
    · have g0 : (0 : Int) < N := by omega
      obtain ⟨N2, hN2⟩ : ∃ N2, N / 2 = N2 := ⟨_, rfl⟩
      have t1 : (N : Int).tdiv 2 = (N2 : Int) := by rw [Int.tdiv_eq_ediv_of_nonneg (by omega)]; omega
      have t2 := Mul64.wrapN N2 (by omega)
      have HM1 := Lib.hid (fun w => nmul_any R X (pr_small hI.2.1) hI.2.2 w)
      have HM2 := Lib.hid (fun w => nmul_any X X hI.2.2 hI.2.2 w)
      have HBW := Lib.hid hbw
      by_cases ho : N % 2 = 1
      · have t3 : (N : Int).tmod 2 = 1 := by rw [Int.tmod_eq_emod_of_nonneg (by omega)]; omega
        have HI2 := Lib.hid (hI.odd ho)
        rw [hN2] at HI2
        have HN2 : Hid (N2 < N ∧ N2 < 18446744073709551616) := ⟨by omega, by omega⟩
        clear hI hbw hN hN2 ho h0
        go_wp2_with fail
        refine (HM1.out _).mono ?_
        rintro e w1 ⟨rfl, hb1⟩
        have HB1 := Lib.hid (HBW.out.trans hb1)
        clear hb1
        go_wp2_with fail
        refine (HM2.out _).mono ?_
        rintro e w2 ⟨rfl, hb2⟩
        have HB2 := Lib.hid (HB1.out.trans hb2)
        clear hb2
        go_wp2_with fail
        go_roundw
        case rel => exact ⟨_, _, _, rfl, rfl, rfl, HI2.out, HN2.out.2, HB2.out⟩
        case measure => have := HN2.out.1; simp [intOf]; omega
      · have t3 : (N : Int).tmod 2 = 0 := by rw [Int.tmod_eq_emod_of_nonneg (by omega)]; omega
        have HI2 := Lib.hid (hI.even (by omega))
        rw [hN2] at HI2
        have HN2 : Hid (N2 < N ∧ N2 < 18446744073709551616) := ⟨by omega, by omega⟩
        clear hI hbw hN hN2 ho h0
        go_wp2_with fail
        refine (HM2.out _).mono ?_
        rintro e w2 ⟨rfl, hb2⟩
        have HB2 := Lib.hid (HBW.out.trans hb2)
        clear hb2
        go_wp2_with fail
        go_roundw
        case rel => exact ⟨_, _, _, rfl, rfl, rfl, HI2.out, HN2.out.2, HB2.out⟩
        case measure => have := HN2.out.1; simp [intOf]; omega

theorem right_yes (n : Nat) (h1 : 1 ≤ n) (hn : n ≤ 192) (hd : 192 % n = 0) (w : World) :
    Calls Tryz.prog 60 #[.int .i64 n] w fun e w' => e = .returned (.bool true) ∧ w = w' := by
  have g : (1 : Int) ≤ n := by omega
  have t : (192 : Int).tmod n = 0 := by
    rw [Int.tmod_eq_emod_of_nonneg (by omega)]
    have h : ((192 % n : Nat) : Int) = (192 : Int) % (n : Int) := Int.natCast_emod 192 n
    rw [hd] at h
    exact h.symm
  have z : ¬ n = 0 := by omega
  clear h1 hn hd
  go_enter Tryz.func60, Tryz.ntmps60
  go_wp2_with fail
  go_ret
  exact ⟨rfl, rfl⟩

end Go.Proofs.YtehiabiahipkhaaGreat

namespace Go.Proofs.YtehiabiahipkhaaGreat
open Go.RowKit
set_option linter.unusedVariables false
set_option linter.unusedSimpArgs false

/-- A uint64. -/
abbrev nV (n : Nat) : Value := .int .u64 n
/-- A row of uint64s of the call's own. -/
abbrev NArr (w : World) (g cap : Nat) (xs : List Nat) : Prop := Arr 59 nV w g cap xs
theorem info_n : (Tryz.prog.info? 59).map (fun i => (i.zero, i.size, i.bytes)) = some (some (nV 0), 1, 8) := by kernel_rfl
theorem cells_n : (nV 0).cells = #[nV 0] := rfl
theorem info_parts' {P : Program} {t : TypeId} {z : Value} {s b : Nat} (h : (P.info? t).map (fun i => (i.zero, i.size, i.bytes)) = some (some z, s, b)) :
    ∃ i, P.info? t = some i ∧ i.zero = some z ∧ i.size = s ∧ i.bytes = b := by
  cases hi : P.info? t with
  | none => rw [hi] at h; simp at h
  | some i =>
    rw [hi] at h
    simp only [Option.map_some, Option.some.injEq, Prod.mk.injEq] at h
    exact ⟨i, rfl, h.1, h.2.1, h.2.2⟩

/-- The running power. -/
def atN (st : Nat) : Nat → Nat
  | 0 => 1
  | k + 1 => mulP (atN st k) st
theorem atN_lt (st : Nat) : ∀ k, atN st k < pr
  | 0 => (by decide : 1 < pr)
  | k + 1 => mulP_lt _ _
/-- The running sum. -/
def nS (xs : List Nat) (st : Nat) : Nat → Nat
  | 0 => 0
  | k + 1 => addP (nS xs st k) (mulP (xs.getD k 0) (atN st k))
theorem nS_lt (xs : List Nat) (st : Nat) : ∀ k, nS xs st k < pr
  | 0 => pr_pos
  | k + 1 => addP_lt _ _
/-- Every second of a list. -/
def partA (xs : List Nat) (from0 k : Nat) : List Nat := (List.range k).map fun i => xs.getD (from0 + 2 * i) 0
theorem partA_length (xs : List Nat) (f k : Nat) : (partA xs f k).length = k := by simp [partA]
theorem partA_get (xs : List Nat) (f k i : Nat) (h : i < k) : (partA xs f k).getD i 0 = xs.getD (f + 2 * i) 0 := by simp [partA, h]
/-- ntt.line: the first number bounds how often it is halved. -/
def nline : Nat → List Nat → Nat → List Nat
  | 0, _, _ => []
  | f + 1, xs, v =>
    if xs.length % 2 = 1 then (List.range xs.length).map fun j => nS xs (powP v j) xs.length
    else
      let h := xs.length / 2
      let e := nline f (partA xs 0 h) (mulP v v)
      let o := nline f (partA xs 1 h) (mulP v v)
      ((List.range h).map fun j => addP (e.getD j 0) (mulP (atN v j) (o.getD j 0))) ++ ((List.range h).map fun j => subP (e.getD j 0) (mulP (atN v j) (o.getD j 0)))
theorem nline_length {f : Nat} {xs : List Nat} {v : Nat} (hf : xs.length < 2 ^ f) (h0 : 0 < xs.length) : (nline f xs v).length = xs.length := by
  cases f with
  | zero => have h1 : xs.length < 1 := hf; omega
  | succ f =>
    unfold nline
    split
    · simp
    · simp; omega
theorem nline_lt (f : Nat) (xs : List Nat) (v : Nat) : ∀ x ∈ nline f xs v, x < pr := by
  intro x hx
  cases f with
  | zero => simp [nline] at hx
  | succ f =>
    unfold nline at hx
    split at hx
    · simp only [List.mem_map, List.mem_range] at hx
      obtain ⟨j, _, rfl⟩ := hx
      exact nS_lt _ _ _
    · simp only [List.mem_append, List.mem_map, List.mem_range] at hx
      rcases hx with ⟨j, _, rfl⟩ | ⟨j, _, rfl⟩
      · exact addP_lt _ _
      · exact subP_lt _ _
theorem all_getD {xs : List Nat} (h : ∀ x ∈ xs, x < pr) (i : Nat) : xs.getD i 0 < pr := by
  by_cases hi : i < xs.length
  · rw [List.getD_eq_getElem?_getD, List.getElem?_eq_getElem hi]
    exact h _ (List.getElem_mem hi)
  · rw [List.getD_eq_getElem?_getD, List.getElem?_eq_none (by omega)]
    exact pr_pos

set_option maxHeartbeats 2000000 in
set_option maxRecDepth 100000 in
theorem nline_odd (b off cap v n : Nat) (xs : List Nat) (w : World) (hn : xs.length = n) (hodd : n % 2 = 1) (hlen : n ≤ 192) (hv : v < 18446744073709551616) (hp : ∀ x ∈ xs, x < pr)
    (hx : ∀ i, i < n → w.cell? ⟨b, off + i, none⟩ = some (nV (xs.getD i 0))) :
    Calls Tryz.prog 42 #[.slice (some ⟨b, off, none⟩) n cap, nV v] w fun e w' => RetArr 59 nV n ((List.range n).map fun j => nS xs (powP v j) n) w e w' ∧ Bel w w' := by
  obtain ⟨i0, hi, hz0, hz1, hz2⟩ := info_parts' info_n
  have ho : ((n : Int) % 2 == 1) = true := by simp; omega
  have ho2 : (n : Int).tmod 2 = 1 := by rw [Int.tmod_eq_emod_of_nonneg (by omega)]; omega
  obtain ⟨r, hr⟩ : ∃ r, (List.range n).map (fun j => nS xs (powP v j) n) = r := ⟨_, rfl⟩
  have HRL : Hid (r.length = n) := by unfold Hid; rw [← hr]; simp
  have HRG : Hid (∀ j, j < n → r.getD j 0 = nS xs (powP v j) n) := fun j hj => by rw [← hr]; simp [hj]
  rw [hr]
  have HX := Lib.hid hx
  have HP := Lib.hid (fun i => all_getD hp i)
  have HV := Lib.hid hv
  clear hr hx hp hn hv hodd
  have n8 : 8 * n ≤ 281474976710656 := by omega
  have n9 : n ≤ 1000000000 := by omega
  go_enter Tryz.func42, Tryz.ntmps42
  go_wp2_with (first | (refine wpList_make_arr _ rfl (.tmp 23) (.tmp 23) 61 rfl 59 i0 nV 0 8 Tryz.underlying61 hi hz0 hz1 hz2 cells_n .i64 .i64 _ _ n rfl rfl rfl rfl n8 n9 ?_; intro w1 hout hb1) | fail)
  go_loopw [30] (fun i wr => ∃ j : Nat, j ≤ n ∧ i = .int .i64 j ∧ NArr wr w.heap.size n (filled r j 0) ∧ Bel w wr) (fun i _ => n - (intOf i).toNat)
  case atStart => exact ⟨0, Nat.zero_le _, rfl, by rw [filled_zero, HRL.out]; exact hout, hb1⟩
  case round =>
    obtain ⟨j, hj, rfl, ho1, hbw⟩ := hrel
    by_cases hlt : j < n
    · obtain ⟨wo, rfl⟩ : ∃ wo : World, wo = wr := ⟨_, rfl⟩
      have hj64 : j < 18446744073709551616 := Nat.lt_of_lt_of_le hlt (Nat.le_trans hlen (by decide))
      have HPW := Lib.hid (fun w => power_any v j HV.out hj64 w)
      have cj : IntKind.u64.wrap (j : Int) = (j : Int) := Mul64.wrapN j hj64
      clear hj64
      obtain ⟨st, hst⟩ : ∃ st, powP v j = st := ⟨_, rfl⟩
      rw [hst] at HPW
      have HST := Lib.hid hst
      have HSL : Hid (st < pr) := by unfold Hid; rw [← hst]; exact powP_lt _ _
      have HO1 := Lib.hid ho1
      have HBW := Lib.hid hbw
      clear hst ho1 hbw
      go_wp2_with fail
      refine (HPW.out _).mono ?_
      rintro e w2 ⟨rfl, hb2⟩
      have HB2 := Lib.hid hb2
      clear hb2
      go_wp2_with fail
      go_loopw [8, 10, 39] (fun s a i wr => ∃ k : Nat, k ≤ n ∧ i = .int .i64 k ∧ s = nV (nS xs st k) ∧ a = nV (atN st k) ∧ Bel wo wr) (fun _ _ i _ => n - (intOf i).toNat)
      case atStart => exact ⟨0, Nat.zero_le _, rfl, rfl, rfl, HB2.out⟩
      case round =>
        obtain ⟨k, hk, rfl, rfl, rfl, hbt⟩ := hrel
        by_cases hltk : k < n
        · have hcell := (HBW.out.trans hbt).cellv (HX.out k hltk)
          have HM1 := Lib.hid (fun w => nmul_any (xs.getD k 0) (atN st k) (pr_small (HP.out k)) (pr_small (atN_lt _ _)) w)
          have HA := Lib.hid (fun w => add_any (nS xs st k) (mulP (xs.getD k 0) (atN st k)) (nS_lt _ _ _) (mulP_lt _ _) w)
          have HM2 := Lib.hid (fun w => nmul_any (atN st k) st (pr_small (atN_lt _ _)) (pr_small HSL.out) w)
          have HBT := Lib.hid hbt
          clear hbt
          generalize hxk : xs.getD k 0 = x at hcell HM1 HA
          have HXK := Lib.hid hxk
          clear hxk
          go_wp2_with fail
          refine (HM1.out _).mono ?_
          rintro e w3 ⟨rfl, hb3⟩
          have HB3 := Lib.hid (HBT.out.trans hb3)
          clear hb3
          go_wp2_with fail
          refine (HA.out _).mono ?_
          rintro e w4 ⟨rfl, hb4⟩
          have HB4 := Lib.hid (HB3.out.trans hb4)
          clear hb4
          go_wp2_with fail
          refine (HM2.out _).mono ?_
          rintro e w5 ⟨rfl, hb5⟩
          have HB5 := Lib.hid (HB4.out.trans hb5)
          clear hb5
          go_wp2_with fail
          go_roundw
          case rel => exact ⟨k + 1, by omega, by go_num, by rw [← HXK.out]; rfl, rfl, HB5.out⟩
          case measure => simp [intOf]; omega
        · have : k = n := by omega
          subst this
          have HOO : Hid (NArr wr w.heap.size k (filled r j 0)) := HO1.out.bel hbt
          have hoc := HOO.out.cell (i := j) (by rw [filled_length, HRL.out]; exact hlt) 0
          have hof := HOO.out.frozen j
          have HBT := Lib.hid hbt
          clear hbt
          have hjk : (j : Int) < k := by omega
          go_wp2_with fail
          go_roundw
          case rel =>
            refine ⟨j + 1, by omega, by go_num, ?_, (HBW.out.trans HBT.out).setCell (Nat.le_refl _) _⟩
            have e : nS xs st k = r.getD j 0 := by rw [HRG.out j (by omega), HST.out]
            rw [e]
            exact (HOO.out.store j (r.getD j 0)).ext (filled_succ r j 0)
          case measure => simp [intOf]; omega
    · have : j = n := by omega
      subst this
      have HA : Hid (NArr wr w.heap.size j r) := ho1.ext (by have := HRL.out; subst this; exact filled_all r 0)
      have HBW := Lib.hid hbw
      clear ho1 hbw
      go_wp2
      go_ret
      exact ⟨⟨w.heap.size, j, rfl, HRL.out, Nat.le_refl _, HA.out⟩, HBW.out⟩

end Go.Proofs.YtehiabiahipkhaaGreat
