/-
  The walk of facettop.total.
-/
import Derived.Test.YtdeigbbilcjgjaaTa
import Derived.Test.YtdeigbbilcjgjaaLa
namespace Go.Proofs.Ytdeigbbilcjgjaa
open Go.RowKit
set_option linter.unusedVariables false
set_option linter.unusedSimpArgs false

theorem absR_any {c : C} {r : Nat} (h : AbsR c r) (w : World) : Calls Try.prog 15 #[.complex .f64 c.1 c.2] w fun e w' => e = .returned (.float .f64 r) ∧ w = w' := by
  obtain ⟨x, y, m, n, h⟩ := h
  exact abs_any _ _ _ _ _ _ _ w h

theorem total_any (b off cap n0 n1 n2 L : Nat) (g : List C) (tP : Nat → Nat) (w : World) (hl : L ≤ 1000000) (t0 : tP 0 = 0) (tot : ∀ i, i < L → ∃ r, AbsR (g.getD i (0, 0)) r ∧ fAdd (tP i) r = some (tP (i + 1)))
    (hx : ∀ i, i < L → w.cell? ⟨b, off + i, none⟩ = some (cVal (g.getD i (0, 0)))) :
    Calls Try.prog 14 #[gridV n0 n1 n2 (some ⟨b, off, none⟩) L cap] w fun e w' => e = .returned (.float .f64 (tP L)) ∧ Bel w w' := by
  have HX := Lib.hid hx
  have HT := Lib.hid tot
  have HT0 := Lib.hid t0
  clear hx tot t0
  go_enter Try.func14, Try.ntmps14
  go_wp2_with fail
  have hb1 : Bel w (w.alloc (.cells #[.int .i64 n0, .int .i64 n1, .int .i64 n2, .slice (some ⟨b, off, none⟩) L cap] 29)) := (Bel.refl _).alloc _
  have k1 : (w.alloc (.cells #[.int .i64 n0, .int .i64 n1, .int .i64 n2, .slice (some ⟨b, off, none⟩) L cap] 29)).cell? ⟨w.heap.size, 3, none⟩ = some (.slice (some ⟨b, off, none⟩) L cap) := cell_new _ _ _ 3
  generalize hW : World.alloc _ _ = W at *
  have HB := Lib.hid hb1
  clear hW hb1
  go_loopw [3, 4] (fun s i wr => ∃ j : Nat, j ≤ L ∧ i = .int .i64 j ∧ s = .float .f64 (tP j) ∧ Bel W wr) (fun _ i _ => L - (intOf i).toNat)
  case atStart => exact ⟨0, Nat.zero_le _, rfl, by rw [HT0.out], Bel.refl W⟩
  case round =>
    obtain ⟨j, hj, rfl, rfl, hbw⟩ := hrel
    have k1' := hbw.cellv k1
    by_cases hlt : j < L
    · have x1 := (HB.out.trans hbw).cellv (HX.out j hlt)
      obtain ⟨r, hr, hadd⟩ := HT.out j hlt
      have HA := Lib.hid (fun w => absR_any hr w)
      generalize g.getD j (0, 0) = x at x1 HA
      clear hr
      have hjL : (j : Int) < L := by omega
      have o1 := fun T w => run_float_arith (P := Try.prog) w .add T .f64 _ _ _ hadd
      have HBW := Lib.hid hbw
      clear hbw hadd
      obtain ⟨t', ht'⟩ : ∃ t', tP (j + 1) = t' := ⟨_, rfl⟩
      rw [ht'] at o1
      have HTJ := Lib.hid ht'
      clear ht'
      have HS : Hid (wr.cell? ⟨w.heap.size, 3, none⟩ = some (.slice (some ⟨b, off, none⟩) L cap) ∧ wr.cell? ⟨b, off + j, none⟩ = some (cVal x)) := ⟨k1', x1⟩
      go_wp2_with fail
      refine (HA.out _).mono ?_
      rintro e w' ⟨rfl, rfl⟩
      go_wp2_with fail
      go_roundw
      case rel => exact ⟨j + 1, by omega, by go_num, by rw [HTJ.out], HBW.out⟩
      case measure => simp [intOf]; omega
    · have : j = L := by omega
      subst this
      have HBW := Lib.hid hbw
      clear hbw
      go_wp2
      go_ret
      exact ⟨rfl, HB.out.trans HBW.out⟩

end Go.Proofs.Ytdeigbbilcjgjaa
