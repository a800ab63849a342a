/-
  The walks of facettop.lengths, among, spot.
-/
import Derived.Test.YtdeigbbilcjgjaaWj
import Derived.Test.YtdeigbbilcjgjaaAb
namespace Go.Proofs.Ytdeigbbilcjgjaa
open Go.RowKit
set_option linter.unusedVariables false
set_option linter.unusedSimpArgs false

def lenTab : List Nat := [1, 2, 3, 4, 6, 8, 12, 16, 24, 32, 48, 64, 96, 192]
/-- The side that a byte stands for. -/
def lenOf (k most : Nat) : Nat := if lenTab.getD (k % 14) 0 ≤ most then lenTab.getD (k % 14) 0 else lenTab.getD (k % 5) 0

theorem lenTab5 (k : Nat) : lenTab.getD (k % 5) 0 ≤ 6 := by
  have : k % 5 < 5 := Nat.mod_lt _ (by omega)
  generalize k % 5 = j at this
  rcases (by omega : j = 0 ∨ j = 1 ∨ j = 2 ∨ j = 3 ∨ j = 4) with rfl | rfl | rfl | rfl | rfl <;> decide

theorem among_any (h n : Nat) (w : World) (hn : 0 < n) (h1 : h ≤ 1000000) (h2 : n ≤ 1000000) :
    Calls Try.prog 17 #[.int .i64 h, .int .i64 n] w fun e w' => e = .returned (.int .i64 (h % n : Nat)) ∧ w = w' := by
  have e : (h : Int).tmod n = ((h % n : Nat) : Int) := by rw [Int.tmod_eq_emod_of_nonneg (by omega), Int.natCast_emod]
  have hlt : h % n < n := Nat.mod_lt _ hn
  generalize h % n = r at *
  have hw : IntKind.i64.wrap (r : Int) = (r : Int) := IntWalk.i64_in _ (by omega)
  have hn0 : ((n : Int) == 0) = false := by simp; omega
  have hneg : ¬ ((r : Int) < 0) := by omega
  go_enter Try.func17, Try.ntmps17
  go_wp2
  go_ret
  exact ⟨rfl, rfl⟩

theorem lengths_any (k most : Nat) (w : World) (hk : k < 256) (h6 : 6 ≤ most) (h12 : most ≤ 12) :
    Calls Try.prog 11 #[.int .u8 k, .int .i64 most] w fun e w' => e = .returned (.int .i64 (lenOf k most : Nat)) ∧ Bel w w' := by
  have e1 : (k : Int).tmod 14 = ((k % 14 : Nat) : Int) := by rw [Int.tmod_eq_emod_of_nonneg (by omega)]; omega
  have e2 : (k : Int).tmod 5 = ((k % 5 : Nat) : Int) := by rw [Int.tmod_eq_emod_of_nonneg (by omega)]; omega
  have f1 : k % 14 < 14 := Nat.mod_lt _ (by omega)
  have f2 : k % 5 < 5 := Nat.mod_lt _ (by omega)
  have g5 := lenTab5 k
  have hlen : lenOf k most = if lenTab.getD (k % 14) 0 ≤ most then lenTab.getD (k % 14) 0 else lenTab.getD (k % 5) 0 := rfl
  have wk : IntKind.i64.wrap (k : Int) = (k : Int) := IntWalk.i64_in _ (by omega)
  generalize k % 14 = p at *
  generalize k % 5 = q at *
  have w1 : IntKind.i64.wrap (p : Int) = (p : Int) := IntWalk.i64_in _ (by omega)
  have w2 : IntKind.i64.wrap (q : Int) = (q : Int) := IntWalk.i64_in _ (by omega)
  have b1 : (0 : Int) ≤ p ∧ (p : Int) < 14 := by omega
  have b2 : (0 : Int) ≤ q ∧ (q : Int) < 14 := by omega
  have hcell : ∀ W : World, ∀ j : Nat, j < 14 → (W.alloc (.cells #[.int .i64 1, .int .i64 2, .int .i64 3, .int .i64 4, .int .i64 6, .int .i64 8, .int .i64 12, .int .i64 16, .int .i64 24, .int .i64 32, .int .i64 48, .int .i64 64, .int .i64 96, .int .i64 192] 58)).cell? ⟨W.heap.size, j, none⟩ = some (.int .i64 (lenTab.getD j 0 : Nat)) := by
    intro W j hj
    rcases (by omega : j = 0 ∨ j = 1 ∨ j = 2 ∨ j = 3 ∨ j = 4 ∨ j = 5 ∨ j = 6 ∨ j = 7 ∨ j = 8 ∨ j = 9 ∨ j = 10 ∨ j = 11 ∨ j = 12 ∨ j = 13) with rfl | rfl | rfl | rfl | rfl | rfl | rfl | rfl | rfl | rfl | rfl | rfl | rfl | rfl <;> exact cell_new W _ _ _
  have c1 := hcell w p f1
  have c2 := hcell w q (by omega)
  go_enter Try.func11, Try.ntmps11
  generalize lenTab.getD p 0 = a at *
  generalize lenTab.getD q 0 = c at *
  clear hcell
  generalize lenOf k most = r at hlen ⊢
  have HLEN : Hid (r = if a ≤ most then a else c) := hlen
  clear hlen
  go_wp2
  go_loop [6] (fun n => ∃ v : Nat, n = .int .i64 v ∧ (v = a ∨ (v = c ∧ ¬ a ≤ most))) (fun n => if (intOf n).toNat ≤ most then 0 else 1)
  case atStart => exact ⟨a, rfl, Or.inl rfl⟩
  case round =>
    obtain ⟨v, rfl, hv⟩ := hrel
    by_cases hle : v ≤ most
    · have hr : r = v := by
        have := HLEN.out
        rw [this]
        rcases hv with rfl | ⟨rfl, h⟩
        · rw [if_pos hle]
        · rw [if_neg h]
      subst hr
      clear hv HLEN
      have hg : ¬ ((most : Int) < r) := by omega
      go_wp2
      go_ret
      exact ⟨rfl, (Bel.refl _).alloc _⟩
    · have hva : v = a := by omega
      subst hva
      clear hv
      have hg : (most : Int) < v := by omega
      have hg2 : ¬ ((most : Int) < c) := by omega
      go_wp2
      go_round
      case rel => exact ⟨c, rfl, Or.inr ⟨rfl, hle⟩⟩
      case measure =>
        have q1 : (intOf (.int .i64 (v : Int))).toNat = v := by simp [intOf]
        have q2 : (intOf (.int .i64 (c : Int))).toNat = c := by simp [intOf]
        simp only [q1, q2]
        rw [if_neg hle, if_pos (by omega)]; omega

theorem spot_any (a b c n0 n1 n2 : Nat) (w : World) (h0 : a < n0) (h1 : b < n1) (h2 : c < n2) (b0 : n0 ≤ 192) (b1 : n1 ≤ 192) (b2 : n2 ≤ 192) :
    Calls Try.prog 16 #[.agg #[.int .i64 a, .int .i64 b, .int .i64 c], .agg #[.int .i64 n0, .int .i64 n1, .int .i64 n2]] w fun e w' => e = .returned (.int .i64 ((a * n1 + b) * n2 + c : Nat)) ∧ Bel w w' := by
  have p1 : a * n1 ≤ 192 * 192 := Nat.mul_le_mul (by omega) (by omega)
  have p2 : (a * n1 + b) * n2 ≤ (192 * 192 + 192) * 192 := Nat.mul_le_mul (by omega) (by omega)
  have q1 : (a : Int) * n1 = ((a * n1 : Nat) : Int) := by simp
  have q2 : ((a * n1 : Nat) : Int) + b = ((a * n1 + b : Nat) : Int) := by simp
  have q3 : ((a * n1 + b : Nat) : Int) * n2 = (((a * n1 + b) * n2 : Nat) : Int) := by simp
  have q4 : (((a * n1 + b) * n2 : Nat) : Int) + c = (((a * n1 + b) * n2 + c : Nat) : Int) := by simp
  have r1 : IntKind.i64.wrap ((a * n1 : Nat) : Int) = ((a * n1 : Nat) : Int) := IntWalk.i64_in _ (by omega)
  generalize a * n1 = u at *
  have r2 : IntKind.i64.wrap ((u + b : Nat) : Int) = ((u + b : Nat) : Int) := IntWalk.i64_in _ (by omega)
  generalize u + b = v at *
  have r3 : IntKind.i64.wrap ((v * n2 : Nat) : Int) = ((v * n2 : Nat) : Int) := IntWalk.i64_in _ (by omega)
  generalize v * n2 = x at *
  have r4 : IntKind.i64.wrap ((x + c : Nat) : Int) = ((x + c : Nat) : Int) := IntWalk.i64_in _ (by omega)
  generalize x + c = y at *
  go_enter Try.func16, Try.ntmps16
  go_wp2
  go_ret
  exact ⟨rfl, ((Bel.refl _).alloc _).alloc _⟩

end Go.Proofs.Ytdeigbbilcjgjaa
