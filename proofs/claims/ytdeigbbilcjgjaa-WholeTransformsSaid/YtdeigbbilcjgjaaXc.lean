/-
  The walk of facetlaw20.equal, where two grids are equal.
-/
import Derived.Test.YtdeigbbilcjgjaaXb
import Derived.Laws.StructEq
import Derived.Deep.QuietTactic
import Derived.BigQuiet
namespace Go.Proofs.Ytdeigbbilcjgjaa
open Go.RowKit
set_option linter.unusedVariables false
set_option linter.unusedSimpArgs false

/-- '==' of complex numbers. -/
def cEq (a b : C) : Bool := (FloatKind.f64.format.order a.1 b.1 == some .eq) && (FloatKind.f64.format.order a.2 b.2 == some .eq)

theorem cEq_run {a b : C} (h : cEq a b = true) (t : TypeId) (w : World) : (binOp .neq t (cVal a) (cVal b)).run Try.prog w = .ok (.bool false) w := by
  unfold cEq at h
  rw [run_neq_complex, h]; rfl

theorem equalIn_int (d : Nat) (x y : Int) (w : World) : (Op.equalIn (d + 1) 3 (.int .i64 x) (.int .i64 y)).run Try.prog w = .ok (x == y) w := by
  simp [Op.equalIn, run_underlying Try.underlying3]

theorem equalIn_vec (d : Nat) (x0 x1 x2 y0 y1 y2 : Int) (w : World) :
    (Op.equalIn (d + 1 + 1) 26 (.agg #[.int .i64 x0, .int .i64 x1, .int .i64 x2]) (.agg #[.int .i64 y0, .int .i64 y1, .int .i64 y2])).run Try.prog w = .ok (x0 == y0 && x1 == y1 && x2 == y2) w := by
  have hs : (sizeOf 3).run Try.prog w = .ok 1 w := by kernel_rfl
  have p0 : ∀ a b c : Value, (part 3 #[a, b, c] 0).run Try.prog w = .ok a w := fun a b c => by kernel_rfl
  have p1 : ∀ a b c : Value, (part 3 #[a, b, c] 1).run Try.prog w = .ok b w := fun a b c => by kernel_rfl
  have p2 : ∀ a b c : Value, (part 3 #[a, b, c] 2).run Try.prog w = .ok c w := fun a b c => by kernel_rfl
  have e := equalIn_int d
  rw [Op.equalIn]
  simp [run_underlying Try.underlying26, hs, Std.Legacy.Range.forIn_eq_forIn_range', List.range', p0, p1, p2, e]
  by_cases h0 : x0 = y0 <;> by_cases h1 : x1 = y1 <;> by_cases h2 : x2 = y2 <;> simp [h0, h1, h2]

@[go_sem] theorem equalIn_vec_top (x0 x1 x2 y0 y1 y2 : Int) (w : World) :
    (Op.equalIn 10000 26 (.agg #[.int .i64 x0, .int .i64 x1, .int .i64 x2]) (.agg #[.int .i64 y0, .int .i64 y1, .int .i64 y2])).run Try.prog w = .ok (x0 == y0 && x1 == y1 && x2 == y2) w :=
  equalIn_vec 9998 x0 x1 x2 y0 y1 y2 w

set_option maxHeartbeats 2000000 in
theorem equal20_yes (b1 o1 c1 b2 o2 c2 n0 n1 n2 L : Nat) (xs ys : List C) (w : World) (hls : L ≤ 1000000)
    (hx : ∀ i, i < L → w.cell? ⟨b1, o1 + i, none⟩ = some (cVal (xs.getD i (0, 0)))) (hy : ∀ i, i < L → w.cell? ⟨b2, o2 + i, none⟩ = some (cVal (ys.getD i (0, 0))))
    (he : ∀ i, i < L → cEq (xs.getD i (0, 0)) (ys.getD i (0, 0)) = true) :
    Calls Try.prog 9 #[gridV n0 n1 n2 (some ⟨b1, o1, none⟩) L c1, gridV n0 n1 n2 (some ⟨b2, o2, none⟩) L c2] w fun e w' => e = .returned (.bool true) ∧ Bel w w' := by
  have HX := Lib.hid hx
  have HY := Lib.hid hy
  have HE := Lib.hid he
  clear hx hy he
  go_enter Try.func9, Try.ntmps9
  go_wp2_with fail
  have hb1 : Bel w ((w.alloc (.cells #[.int .i64 n0, .int .i64 n1, .int .i64 n2, .slice (some ⟨b1, o1, none⟩) L c1] 29)).alloc (.cells #[.int .i64 n0, .int .i64 n1, .int .i64 n2, .slice (some ⟨b2, o2, none⟩) L c2] 29)) := ((Bel.refl w).alloc _).alloc _
  generalize hW : World.alloc _ _ = W
  rw [hW] at hb1
  have k1 : W.cell? ⟨w.heap.size, 3, none⟩ = some (.slice (some ⟨b1, o1, none⟩) L c1) := by rw [← hW]; exact ((Bel.refl _).alloc _).cellv (cell_new _ _ _ 3)
  have k2 : W.cell? ⟨w.heap.size + 1, 3, none⟩ = some (.slice (some ⟨b2, o2, none⟩) L c2) := by rw [← hW]; exact cell_new2 _ _ _ _ 3
  have HB := Lib.hid hb1
  clear hW hb1
  go_loopw [23] (fun i wr => ∃ j : Nat, j ≤ L ∧ i = .int .i64 j ∧ Bel W wr) (fun i _ => L - (intOf i).toNat)
  case atStart => exact ⟨0, Nat.zero_le _, rfl, Bel.refl W⟩
  case round =>
    obtain ⟨j, hj, rfl, hbw⟩ := hrel
    by_cases hlt : j < L
    · have x1 := (HB.out.trans hbw).cellv (HX.out j hlt)
      have x2 := (HB.out.trans hbw).cellv (HY.out j hlt)
      have k1' := hbw.cellv k1
      have k2' := hbw.cellv k2
      have heq := HE.out j hlt
      generalize xs.getD j (0, 0) = x at x1 heq
      generalize ys.getD j (0, 0) = y at x2 heq
      have hjL : (j : Int) < L := by omega
      have hop := fun t w => cEq_run heq t w
      have HBW := Lib.hid hbw
      clear hbw heq
      have HS0 : Hid ((wr.cell? ⟨w.heap.size, 3, none⟩ = some (.slice (some ⟨b1, o1, none⟩) L c1) ∧ wr.cell? ⟨w.heap.size + 1, 3, none⟩ = some (.slice (some ⟨b2, o2, none⟩) L c2)) ∧ wr.cell? ⟨b1, o1 + j, none⟩ = some (cVal x) ∧ wr.cell? ⟨b2, o2 + j, none⟩ = some (cVal y)) := ⟨⟨k1', k2'⟩, x1, x2⟩
      clear k1' k2' x1 x2
      go_wp2_with fail
      go_region_held3 (fun w' => (w'.cell? ⟨w.heap.size, 3, none⟩ = some (.slice (some ⟨b1, o1, none⟩) L c1) ∧ w'.cell? ⟨w.heap.size + 1, 3, none⟩ = some (.slice (some ⟨b2, o2, none⟩) L c2)) ∧ w'.cell? ⟨b1, o1 + j, none⟩ = some (cVal x) ∧ w'.cell? ⟨b2, o2 + j, none⟩ = some (cVal y)) (exact HS0.out) (fail)
      go_wp2_with fail
      go_roundw
      case rel => exact ⟨j + 1, by omega, by go_num, HBW.out.drew⟩
      case measure => simp [intOf]; omega
    · have : j = L := by omega
      subst this
      have HBW := Lib.hid hbw
      clear hbw
      go_wp2
      go_ret
      exact ⟨rfl, HB.out.trans HBW.out⟩

end Go.Proofs.Ytdeigbbilcjgjaa
