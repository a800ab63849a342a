/-
  facetlaw20.awake answers true.
-/
import Derived.Test.YtdeigbbilcjgjaaWj
namespace Go.Proofs.Ytdeigbbilcjgjaa
open Go.RowKit
set_option linter.unusedVariables false
set_option linter.unusedSimpArgs false

/-- A new row of numbers that is written out. -/
theorem lit_cells {w W : World} {T : TypeId} (l : List C) (h : Bel (w.alloc (.cells (l.map cVal).toArray T)) W) :
    ∀ i, i < l.length → W.cell? ⟨w.heap.size, 0 + i, none⟩ = some (cVal (l.getD i (0, 0))) := by
  intro i hi
  rw [Nat.zero_add]
  refine h.cellv ?_
  rw [cell_new]
  simp [List.getD_eq_getElem?_getD, hi]

theorem lit_cells2 {w W : World} {o : Obj} {T : TypeId} (l : List C) (h : Bel ((w.alloc o).alloc (.cells (l.map cVal).toArray T)) W) :
    ∀ i, i < l.length → W.cell? ⟨w.heap.size + 1, 0 + i, none⟩ = some (cVal (l.getD i (0, 0))) := by
  intro i hi
  rw [Nat.zero_add]
  refine h.cellv ?_
  rw [cell_new2]
  simp [List.getD_eq_getElem?_getD, hi]

theorem aw1 : lineP 9 false [(0, 0), (4607182418800017408, 0), (0, 0), (0, 0)] = some [(4607182418800017408, 0), (0, 4607182418800017408), (13830554455654793216, 0), (0, 13830554455654793216)] := by kernel_rfl
theorem aw2 : undoneP [(4607182418800017408, 0), (0, 4607182418800017408), (13830554455654793216, 0), (0, 13830554455654793216)] = some [(0, 0), (4607182418800017408, 0), (0, 0), (0, 0)] := by kernel_rfl
theorem aw3 : boxP (lineP 9 false) 1 1 2 [(4607182418800017408, 0), (4611686018427387904, 0)] = some [(4613937818241073152, 0), (13830554455654793216, 0)] := by kernel_rfl
theorem aw4 : directP 0 0 5 1 1 4 [(0, 0), (4607182418800017408, 0), (0, 0), (0, 0)] = some (0, 4607182418800017408) := by kernel_rfl

theorem sides_112 : Sides 1 1 2 := by constructor <;> decide
theorem sides_114 : Sides 1 1 4 := by constructor <;> decide

set_option maxHeartbeats 4000000 in
theorem awake20_any (w : World) :
    Calls Try.prog 5 #[] w fun e w' => e = .returned (.bool true) ∧ Bel w w' := by
  go_enter Try.func5, Try.ntmps5
  go_wp2_with fail
  refine (Line_any w.heap.size 0 4 4 [(0, 0), (4607182418800017408, 0), (0, 0), (0, 0)] _ _ rfl (by omega) (by omega) (by omega) aw1 (lit_cells [(0, 0), (4607182418800017408, 0), (0, 0), (0, 0)] (Bel.refl _))).mono ?_
  rintro e w1 ⟨⟨g1, c1, rfl, hg1, ha1⟩, hb1⟩
  have HA1 := Lib.hid ha1
  have HB1 : Hid (Bel w w1) := ((Bel.refl w).alloc _).trans hb1
  clear ha1 hg1 hb1
  go_wp2_with fail
  refine (Unline_any w1.heap.size 0 4 4 [(4607182418800017408, 0), (0, 4607182418800017408), (13830554455654793216, 0), (0, 13830554455654793216)] _ _ rfl (by omega) (by omega) (by omega) aw2 (lit_cells [(4607182418800017408, 0), (0, 4607182418800017408), (13830554455654793216, 0), (0, 13830554455654793216)] (Bel.refl _))).mono ?_
  rintro e w2 ⟨⟨g2, c2, rfl, hg2, ha2⟩, hb2⟩
  have HA2 := Lib.hid ha2
  have HB2 : Hid (Bel w1 w2) := ((Bel.refl w1).alloc _).trans hb2
  clear ha2 hg2 hb2
  go_wp2_with fail
  refine (Box_any w2.heap.size 0 2 1 1 2 2 [(4607182418800017408, 0), (4611686018427387904, 0)] _ _ sides_112 rfl rfl aw3 (lit_cells [(4607182418800017408, 0), (4611686018427387904, 0)] (Bel.refl _))).mono ?_
  rintro e w3 ⟨⟨g3, c3, rfl, hg3, ha3⟩, hb3⟩
  have HA3 := Lib.hid ha3
  have HB3 : Hid (Bel w2 w3) := ((Bel.refl w2).alloc _).trans hb3
  clear ha3 hg3 hb3
  go_wp2_with fail
  refine (Direct_any (w3.heap.size + 1) 0 4 1 1 4 4 0 0 5 [(0, 0), (4607182418800017408, 0), (0, 0), (0, 0)] _ _ sides_114 rfl rfl (by omega) (by omega) (by omega) (by omega) (by omega) (by omega) aw4 (lit_cells2 [(0, 0), (4607182418800017408, 0), (0, 0), (0, 0)] (Bel.refl _))).mono ?_
  rintro e w4 ⟨rfl, hb4⟩
  have k1 := (((Bel.refl _).alloc _).trans hb4).cellv (p := ⟨w3.heap.size, 3, none⟩) (cell_new w3 _ 29 3)
  have hb34 : Bel w3 w4 := (((Bel.refl _).alloc _).alloc _).trans hb4
  have A1 : CArr w4 g1 c1 _ := ((HA1.out.bel HB2.out).bel HB3.out).bel hb34
  have A2 : CArr w4 g2 c2 _ := (HA2.out.bel HB3.out).bel hb34
  have A3 : CArr w4 g3 c3 _ := HA3.out.bel hb34
  have d11 := A1.cell (i := 1) (by simp) (0, 0)
  have d12 := A1.cell (i := 2) (by simp) (0, 0)
  have d21 := A2.cell (i := 1) (by simp) (0, 0)
  have d22 := A2.cell (i := 2) (by simp) (0, 0)
  have d30 := A3.cell (i := 0) (by simp) (0, 0)
  have d31 := A3.cell (i := 1) (by simp) (0, 0)
  simp only [List.getD_cons_zero, List.getD_cons_succ] at d11 d12 d21 d22 d30 d31
  have HB : Hid (Bel w w4) := ((HB1.out.trans HB2.out).trans HB3.out).trans hb34
  have q1 : (FloatKind.f64.format.order 4607182418800017408 4607182418800017408 == some .eq) = true := by kernel_rfl
  have q2 : (FloatKind.f64.format.order 13830554455654793216 13830554455654793216 == some .eq) = true := by kernel_rfl
  have q3 : (FloatKind.f64.format.order 4613937818241073152 4613937818241073152 == some .eq) = true := by kernel_rfl
  have q0 : (FloatKind.f64.format.order 0 0 == some .eq) = true := by kernel_rfl
  clear hb4 hb34 A1 A2 A3
  go_wp2_with fail
  go_ret
  exact ⟨rfl, HB.out⟩

end Go.Proofs.Ytdeigbbilcjgjaa
