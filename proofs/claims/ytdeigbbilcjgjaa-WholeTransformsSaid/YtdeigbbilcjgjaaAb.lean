/-
  The walk of cplx.Abs.
-/
import Derived.Test.YtdeigbbilcjgjaaWb
import Derived.Lib.Hide
import Derived.Laws.Cover2
namespace Go.Proofs.Ytdeigbbilcjgjaa
open Go.RowKit
set_option linter.unusedVariables false
set_option linter.unusedSimpArgs false

@[go_sem] theorem run_tobits (n : Nat) (w : World) :
    (callFunc 38 #[.float .f64 n]).run Try.prog w = .ok (.value (.int .u64 n)) w := by
  rw [run_callFunc_extern (f := 38) (fn := Try.f38) (e := Extern.MathFloatBits.float64bits) rfl (by kernel_rfl) (by kernel_rfl) (by kernel_rfl) (by kernel_rfl)]
  rfl
theorem run_root (x r : Nat) (h : FloatKind.f64.format.sqrt x = some r) (w : World) :
    (callFunc 39 #[.float .f64 x]).run Try.prog w = .ok (.value (.float .f64 r)) w := by
  rw [run_callFunc_extern (f := 39) (fn := Try.f39) (e := Extern.MathSqrt.sqrt) rfl (by kernel_rfl) (by kernel_rfl) (by kernel_rfl) (by kernel_rfl)]
  have e : Extern.MathSqrt.sqrt #[.float .f64 x] = (match FloatKind.f64.format.sqrt x with | some r => pure (.float .f64 r) | none => do pure (.float .f64 (← choose (.nanBits .f64 x x)))) := rfl
  rw [e, h]; rfl

/-- The sign struck. -/
theorem strike (b : Nat) (hb : b < 18446744073709551616) : (bits .andNot .u64 (b : Int) 9223372036854775808).toNat = b % 9223372036854775808 := by
  rw [u64_andNot (b : Int) 9223372036854775808 (by omega) (by omega) (by omega) (by omega)]
  simp only [Int.toNat_natCast]
  have e : (18446744073709551615 - (9223372036854775808 : Int).toNat) = 2 ^ 63 - 1 := by decide
  rw [e, Nat.and_two_pow_sub_one_eq_mod]

theorem mathAbs_any (b : Nat) (hb : b < 18446744073709551616) (w : World) :
    Calls Try.prog 27 #[.float .f64 b] w fun e w' => e = .returned (.float .f64 (b % 9223372036854775808)) ∧ w = w' := by
  have hs := strike b hb
  go_enter Try.func27, Try.ntmps27
  go_wp2
  go_ret
  exact ⟨rfl, rfl⟩
theorem isInf_no (x : Nat) (h : (FloatKind.f64.format.order x 9218868437227405311 == some .gt) = false) (w : World) :
    Calls Try.prog 28 #[.float .f64 x, .int .i64 1] w fun e w' => e = .returned (.bool false) ∧ w = w' := by
  go_enter Try.func28, Try.ntmps28
  go_wp2
  go_ret
  exact ⟨rfl, rfl⟩
theorem isNaN_no (x : Nat) (h : (FloatKind.f64.format.order x x != some .eq) = false) (w : World) :
    Calls Try.prog 30 #[.float .f64 x] w fun e w' => e = .returned (.bool false) ∧ w = w' := by
  go_enter Try.func30, Try.ntmps30
  go_wp2
  go_ret
  exact ⟨rfl, rfl⟩
theorem sqrt_any (x r : Nat) (h : FloatKind.f64.format.sqrt x = some r) (w : World) :
    Calls Try.prog 32 #[.float .f64 x] w fun e w' => e = .returned (.float .f64 r) ∧ w = w' := by
  have hr := run_root x r h
  go_enter Try.func32, Try.ntmps32
  go_wp2
  go_ret
  exact ⟨rfl, rfl⟩

/-- The greater of two floats. -/
def fMax (x y : Nat) : Nat := match FloatKind.f64.format.order x y with
  | some .lt => y
  | some .gt => x
  | _ => if (FloatKind.f64.decode x).neg then y else x
def fMin (x y : Nat) : Nat := match FloatKind.f64.format.order x y with
  | some .lt => x
  | some .gt => y
  | _ => if (FloatKind.f64.decode x).neg then x else y
theorem run_max_float (ts : Array TypeId) (t : TypeId) (x y : Nat) (o : Ordering) (h : FloatKind.f64.format.order x y = some o) (w : World) : (Builtin.max_ ts t #[.float .f64 x, .float .f64 y]).run Try.prog w = .ok (.float .f64 (fMax x y)) w := by
  cases o <;> simp [Builtin.max_, Builtin.max2, h, fMax]
theorem run_min_float (ts : Array TypeId) (t : TypeId) (x y : Nat) (o : Ordering) (h : FloatKind.f64.format.order x y = some o) (w : World) : (Builtin.min_ ts t #[.float .f64 x, .float .f64 y]).run Try.prog w = .ok (.float .f64 (fMin x y)) w := by
  cases o <;> simp [Builtin.min_, Builtin.min2, h, fMin]

/-- What the magnitude is made of. -/
structure AbsOf (a b x y m n r : Nat) : Prop where
  ha : a < 18446744073709551616
  hb : b < 18446744073709551616
  hx : x = a % 9223372036854775808
  hy : y = b % 9223372036854775808
  ix : (FloatKind.f64.format.order x 9218868437227405311 == some .gt) = false
  iy : (FloatKind.f64.format.order y 9218868437227405311 == some .gt) = false
  nx : (FloatKind.f64.format.order x x != some .eq) = false
  ny : (FloatKind.f64.format.order y y != some .eq) = false
  o : ∃ o, FloatKind.f64.format.order x y = some o
  hm : m = fMax x y
  hn : n = fMin x y
  z : ((FloatKind.f64.format.order m 0 == some .eq) = true ∧ r = 0) ∨ ((FloatKind.f64.format.order m 0 == some .eq) = false ∧
    ∃ t tt s q, floatBits .quo .f64 n m = some t ∧ floatBits .mul .f64 t t = some tt ∧ floatBits .add .f64 4607182418800017408 tt = some s ∧ FloatKind.f64.format.sqrt s = some q ∧ floatBits .mul .f64 m q = some r)

theorem abs_any (a b x y m n r : Nat) (w : World) (h : AbsOf a b x y m n r) :
    Calls Try.prog 15 #[.complex .f64 a b] w fun e w' => e = .returned (.float .f64 r) ∧ w = w' := by
  obtain ⟨ha, hb, hx, hy, ix, iy, nx, ny, ⟨o, ho⟩, hm, hn, hz⟩ := h
  have A1 := fun w => mathAbs_any a ha w
  have A2 := fun w => mathAbs_any b hb w
  rw [← hx] at A1
  rw [← hy] at A2
  have I1 := fun w => isInf_no x ix w
  have I2 := fun w => isInf_no y iy w
  have N1 := fun w => isNaN_no x nx w
  have N2 := fun w => isNaN_no y ny w
  have M1 := fun ts t w => run_max_float ts t x y o ho w
  have M2 := fun ts t w => run_min_float ts t x y o ho w
  rw [← hm] at M1
  rw [← hn] at M2
  clear hx hy ix iy nx ny ho hm hn ha hb
  rcases hz with ⟨z, rfl⟩ | ⟨z, t, tt, s, q, h1, h2, h3, h4, h5⟩
  · go_enter Try.func15, Try.ntmps15
    go_wp2_with fail
    refine (A1 _).mono ?_; rintro e w1 ⟨rfl, rfl⟩
    go_wp2_with fail
    refine (A2 _).mono ?_; rintro e w1 ⟨rfl, rfl⟩
    go_wp2_with fail
    refine (I1 _).mono ?_; rintro e w1 ⟨rfl, rfl⟩
    go_wp2_with fail
    refine (I2 _).mono ?_; rintro e w1 ⟨rfl, rfl⟩
    go_wp2_with fail
    refine (N1 _).mono ?_; rintro e w1 ⟨rfl, rfl⟩
    go_wp2_with fail
    refine (N2 _).mono ?_; rintro e w1 ⟨rfl, rfl⟩
    go_wp2_with fail
    go_ret
    exact ⟨rfl, rfl⟩
  · have Q := fun w => sqrt_any s q h4 w
    have o1 := fun T w => run_float_arith (P := Try.prog) w .quo T .f64 _ _ _ h1
    have o2 := fun T w => run_float_arith (P := Try.prog) w .mul T .f64 _ _ _ h2
    have o3 := fun T w => run_float_arith (P := Try.prog) w .add T .f64 _ _ _ h3
    have o5 := fun T w => run_float_arith (P := Try.prog) w .mul T .f64 _ _ _ h5
    go_enter Try.func15, Try.ntmps15
    go_wp2_with fail
    refine (A1 _).mono ?_; rintro e w1 ⟨rfl, rfl⟩
    go_wp2_with fail
    refine (A2 _).mono ?_; rintro e w1 ⟨rfl, rfl⟩
    go_wp2_with fail
    refine (I1 _).mono ?_; rintro e w1 ⟨rfl, rfl⟩
    go_wp2_with fail
    refine (I2 _).mono ?_; rintro e w1 ⟨rfl, rfl⟩
    go_wp2_with fail
    refine (N1 _).mono ?_; rintro e w1 ⟨rfl, rfl⟩
    go_wp2_with fail
    refine (N2 _).mono ?_; rintro e w1 ⟨rfl, rfl⟩
    go_wp2_with fail
    refine (Q _).mono ?_; rintro e w1 ⟨rfl, rfl⟩
    go_wp2_with fail
    go_ret
    exact ⟨rfl, rfl⟩

end Go.Proofs.Ytdeigbbilcjgjaa
