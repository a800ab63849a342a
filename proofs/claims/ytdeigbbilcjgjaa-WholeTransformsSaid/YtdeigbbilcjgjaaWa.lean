/-
  The walks of the small functions: cplx.Mul, cplx.Conj, fft.divides.
-/
import Derived.Test.YtdeigbbilcjgjaaRows
import Derived.Test.YtdeigbbilcjgjaaPure
import Derived.Test.YtdeigbbilcjgjaaMem
import Derived.WalkKit
import Derived.Laws.CopyOwn
import Derived.WalkSpells
import Derived.WalkLawsBesides
namespace Go.Proofs.Ytdeigbbilcjgjaa
open Go.RowKit
set_option linter.unusedVariables false
set_option linter.unusedSimpArgs false

theorem mul_any (a b r : C) (w : World) (h : cMul a b = some r) :
    Calls Try.prog 23 #[cVal a, cVal b] w fun e w' => e = .returned (cVal r) ∧ w = w' := by
  unfold cMul fMul fSub fAdd at h
  cases h1 : floatBits .mul .f64 a.1 b.1 with
  | none => simp [h1] at h
  | some ac =>
  cases h2 : floatBits .mul .f64 a.2 b.2 with
  | none => simp [h1, h2] at h
  | some bd =>
  cases h3 : floatBits .sub .f64 ac bd with
  | none => simp [h1, h2, h3] at h
  | some x =>
  cases h4 : floatBits .mul .f64 a.1 b.2 with
  | none => simp [h1, h2, h4] at h
  | some ad =>
  cases h5 : floatBits .mul .f64 a.2 b.1 with
  | none => simp [h1, h2, h4, h5] at h
  | some bc =>
  cases h6 : floatBits .add .f64 ad bc with
  | none => simp [h1, h2, h4, h5, h6] at h
  | some y =>
  simp [h1, h2, h3, h4, h5, h6] at h
  subst h
  obtain ⟨a1, a2⟩ := a
  obtain ⟨b1, b2⟩ := b
  simp only [cVal] at *
  have o1 := fun t w => run_float_arith (P := Try.prog) w .mul t .f64 _ _ _ h1
  have o2 := fun t w => run_float_arith (P := Try.prog) w .mul t .f64 _ _ _ h2
  have o3 := fun t w => run_float_arith (P := Try.prog) w .sub t .f64 _ _ _ h3
  have o4 := fun t w => run_float_arith (P := Try.prog) w .mul t .f64 _ _ _ h4
  have o5 := fun t w => run_float_arith (P := Try.prog) w .mul t .f64 _ _ _ h5
  have o6 := fun t w => run_float_arith (P := Try.prog) w .add t .f64 _ _ _ h6
  clear h1 h2 h3 h4 h5 h6
  go_enter Try.func23, Try.ntmps23
  go_wp2
  go_ret
  exact ⟨rfl, rfl⟩

theorem conj_any (a : C) (w : World) :
    Calls Try.prog 41 #[cVal a] w fun e w' => e = .returned (cVal (a.1, fNeg a.2)) ∧ w = w' := by
  obtain ⟨a1, a2⟩ := a
  simp only [cVal]
  go_enter Try.func41, Try.ntmps41
  go_wp2
  go_ret
  exact ⟨rfl, rfl⟩

theorem divides_any (n : Int) (w : World) (h0 : -9223372036854775808 ≤ n) (h1 : n ≤ 9223372036854775807) :
    Calls Try.prog 26 #[.int .i64 n] w fun e w' => e = .returned (.bool (decide (1 ≤ n ∧ n ≤ 192 ∧ 192 % n = 0))) ∧ w = w' := by
  by_cases a1 : 1 ≤ n
  · by_cases a2 : n ≤ 192
    · go_enter Try.func26, Try.ntmps26
      go_wp2
      go_ret
      exact ⟨by simp [a1, a2]; rfl, rfl⟩
    · go_enter Try.func26, Try.ntmps26
      go_wp2
      go_ret
      exact ⟨by simp; omega, rfl⟩
  · go_enter Try.func26, Try.ntmps26
    go_wp2
    go_ret
    exact ⟨by simp; omega, rfl⟩

end Go.Proofs.Ytdeigbbilcjgjaa
