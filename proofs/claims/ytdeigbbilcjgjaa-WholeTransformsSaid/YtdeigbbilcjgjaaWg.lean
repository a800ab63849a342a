/-
  The walks of fft.check, fft.along, fft.box.
-/
import Derived.Test.YtdeigbbilcjgjaaWf
namespace Go.Proofs.Ytdeigbbilcjgjaa
open Go.RowKit
set_option linter.unusedVariables false
set_option linter.unusedSimpArgs false

/-- A grid as a value. -/
abbrev gridV (n0 n1 n2 : Nat) (a : Option Addr) (len cap : Nat) : Value := .agg #[.int .i64 n0, .int .i64 n1, .int .i64 n2, .slice a len cap]

/-- Sides that divide 192, and not too many places. -/
structure Sides (n0 n1 n2 : Nat) : Prop where
  a0 : 1 ≤ n0
  a1 : 1 ≤ n1
  a2 : 1 ≤ n2
  b0 : n0 ≤ 192
  b1 : n1 ≤ 192
  b2 : n2 ≤ 192
  c0 : 192 % n0 = 0
  c1 : 192 % n1 = 0
  c2 : 192 % n2 = 0
  p : n0 * n1 * n2 ≤ 262144

@[go_sem] theorem index3_0 (x0 x1 x2 : Value) (w : World) : (Instr.index 26 (.agg #[x0, x1, x2]) (.int .i64 0)).run Try.prog w = .ok x0 w := by kernel_rfl
@[go_sem] theorem index3_1 (x0 x1 x2 : Value) (w : World) : (Instr.index 26 (.agg #[x0, x1, x2]) (.int .i64 1)).run Try.prog w = .ok x1 w := by kernel_rfl
@[go_sem] theorem index3_2 (x0 x1 x2 : Value) (w : World) : (Instr.index 26 (.agg #[x0, x1, x2]) (.int .i64 2)).run Try.prog w = .ok x2 w := by kernel_rfl

theorem mul2_bounds (n0 n1 : Nat) (b0 : n0 ≤ 192) (b1 : n1 ≤ 192) : (0 : Int) ≤ (n0 : Int) * n1 ∧ (n0 : Int) * n1 ≤ 36864 := by
  have h : n0 * n1 ≤ 192 * 192 := Nat.mul_le_mul b0 b1
  rw [← Int.natCast_mul]; omega
theorem mul3_bounds (n0 n1 n2 : Nat) (b : n0 * n1 * n2 ≤ 262144) : (0 : Int) ≤ (n0 : Int) * n1 * n2 ∧ (n0 : Int) * n1 * n2 ≤ 262144 := by
  rw [← Int.natCast_mul, ← Int.natCast_mul]; omega

set_option maxHeartbeats 1000000 in
theorem check_ok (n0 n1 n2 : Nat) (a : Option Addr) (cap : Nat) (w : World) (hs : Sides n0 n1 n2) :
    Calls Try.prog 22 #[gridV n0 n1 n2 a (n0 * n1 * n2) cap] w fun e w' => e = .returned (.int .i64 0) ∧ Bel w w' := by
  have HV0 := Lib.hid (fun w1 => divides_yes n0 w1 hs.a0 hs.b0 hs.c0)
  have HV1 := Lib.hid (fun w1 => divides_yes n1 w1 hs.a1 hs.b1 hs.c1)
  have HV2 := Lib.hid (fun w1 => divides_yes n2 w1 hs.a2 hs.b2 hs.c2)
  have m2 := mul2_bounds n0 n1 hs.b0 hs.b1
  have m3 := mul3_bounds n0 n1 n2 hs.p
  have m20 := m2.1
  have m21 := m2.2
  have m30 := m3.1
  have m31 := m3.2
  have hpl := hs.p
  clear m2 m3 hs
  go_enter Try.func22, Try.ntmps22
  go_wp2_with fail
  go_loop [8] (fun i => ∃ k : Nat, k ≤ 3 ∧ i = .int .i64 k) (fun i => 3 - (intOf i).toNat)
  case atStart => exact ⟨0, by omega, rfl⟩
  case round =>
    obtain ⟨k, hk, rfl⟩ := hrel
    match k, hk with
    | 0, _ =>
      go_wp2_with (go_at_call 26; refine (HV0.out _).mono ?_; rintro e w' ⟨rfl, rfl⟩)
      go_round
      case rel => exact ⟨1, by omega, by go_num⟩
      case measure => simp [intOf]
    | 1, _ =>
      go_wp2_with (go_at_call 26; refine (HV1.out _).mono ?_; rintro e w' ⟨rfl, rfl⟩)
      go_round
      case rel => exact ⟨2, by omega, by go_num⟩
      case measure => simp [intOf]
    | 2, _ =>
      go_wp2_with (go_at_call 26; refine (HV2.out _).mono ?_; rintro e w' ⟨rfl, rfl⟩)
      go_round
      case rel => exact ⟨3, by omega, by go_num⟩
      case measure => simp [intOf]
    | 3, _ =>
      go_wp2_with fail
      go_ret
      exact ⟨rfl, (Bel.refl w).alloc _⟩

end Go.Proofs.Ytdeigbbilcjgjaa
