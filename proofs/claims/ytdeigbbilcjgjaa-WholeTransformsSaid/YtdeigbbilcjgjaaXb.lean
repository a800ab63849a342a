/-
  The walks of facetlaw20.whole and facetlaw20.equal.
-/
import Derived.Test.YtdeigbbilcjgjaaXa
namespace Go.Proofs.Ytdeigbbilcjgjaa
open Go.RowKit
set_option linter.unusedVariables false
set_option linter.unusedSimpArgs false

/-- The numbers that whole lays: those that are handed in, and noughts. -/
def wholeAt (vs : List (Int × Int)) (i : Nat) : C := if i < vs.length then (floatOfInt .f64 (vs.getD i (0, 0)).1, floatOfInt .f64 (vs.getD i (0, 0)).2) else (0, 0)
def wholeP (L : Nat) (vs : List (Int × Int)) : List C := (List.range L).map (wholeAt vs)

theorem wholeP_length (L : Nat) (vs : List (Int × Int)) : (wholeP L vs).length = L := by simp [wholeP]
theorem wholeP_get (L : Nat) (vs : List (Int × Int)) (i : Nat) (h : i < L) : (wholeP L vs).getD i (0, 0) = wholeAt vs i := by simp [wholeP, h]

/-- What stays while the numbers of a new grid are laid: the grid's variable, the result's variable, all that was there. -/
def WInv (w W : World) (gv gs n0 n1 n2 L : Nat) : Prop :=
  Bel w W ∧ (W.cell? ⟨gv, 0, none⟩ = some (.int .i64 n0) ∧ W.cell? ⟨gv, 1, none⟩ = some (.int .i64 n1) ∧ W.cell? ⟨gv, 2, none⟩ = some (.int .i64 n2) ∧ W.cell? ⟨gv, 3, none⟩ = some (.slice (some ⟨gs, 0, none⟩) L L)) ∧
    ∀ i, i < 4 → W.cell? ⟨w.heap.size + 1, i, none⟩ = some (cellD W ⟨w.heap.size + 1, i, none⟩) ∧ W.frozen? ⟨w.heap.size + 1, i, none⟩ = false
theorem far_cell {W : World} {g j : Nat} {p : Addr} {v u : Value} (hne : p.block ≠ g) (h : W.cell? p = some v) : (W.setCell ⟨g, j, none⟩ u).cell? p = some v := by
  rw [World.cell?_setCell_other W ⟨g, j, none⟩ p u (fun e => hne (by rw [← e]))]; exact h
theorem WInv.store {w W : World} {gv gs n0 n1 n2 L : Nat} (h : WInv w W gv gs n0 n1 n2 L) (j : Nat) (v : Value) (h1 : gv ≠ gs) (h2 : w.heap.size + 1 ≠ gs) (h3 : w.heap.size ≤ gs) :
    WInv w (W.setCell ⟨gs, j, none⟩ v) gv gs n0 n1 n2 L := by
  obtain ⟨a, ⟨b0, b1, b2, b3⟩, c⟩ := h
  refine ⟨a.setCell h3 v, ⟨far_cell h1 b0, far_cell h1 b1, far_cell h1 b2, far_cell h1 b3⟩, fun i hi => ?_⟩
  obtain ⟨d, e⟩ := c i hi
  exact ⟨cellD_eq (far_cell h2 d), by simpa using e⟩
theorem WInv.drew {w W : World} {gv gs n0 n1 n2 L : Nat} (h : WInv w W gv gs n0 n1 n2 L) : WInv w W.drew gv gs n0 n1 n2 L :=
  ⟨h.1.drew, h.2.1, fun i hi => ⟨cellD_eq (h.2.2 i hi).1, (h.2.2 i hi).2⟩⟩
theorem s5_keep {W : World} {p1 p2 p3 : Addr} {u1 u2 u3 : Value} {g j : Nat} (h : (W.cell? p1 = some u1 ∧ W.cell? p2 = some u2 ∧ W.cell? p3 = some u3) ∧ W.cell? ⟨g, j, none⟩ = some (cellD W ⟨g, j, none⟩) ∧ W.frozen? ⟨g, j, none⟩ = false)
    (h1 : p1.block ≠ g) (h2 : p2.block ≠ g) (h3 : p3.block ≠ g) (v : Value) :
    ((W.drew.setCell ⟨g, j, none⟩ v).cell? p1 = some u1 ∧ (W.drew.setCell ⟨g, j, none⟩ v).cell? p2 = some u2 ∧ (W.drew.setCell ⟨g, j, none⟩ v).cell? p3 = some u3) ∧ (W.drew.setCell ⟨g, j, none⟩ v).cell? ⟨g, j, none⟩ = some (cellD (W.drew.setCell ⟨g, j, none⟩ v) ⟨g, j, none⟩) ∧ (W.drew.setCell ⟨g, j, none⟩ v).frozen? ⟨g, j, none⟩ = false := by
  have e : ∀ p, W.drew.cell? p = W.cell? p := fun _ => rfl
  refine ⟨⟨far_cell h1 (by rw [e]; exact h.1.1), far_cell h2 (by rw [e]; exact h.1.2.1), far_cell h3 (by rw [e]; exact h.1.2.2)⟩, ?_, ?_⟩
  · exact cellD_eq (World.cell?_setCell_same' _ _ v (by rw [e, h.2.1]; rfl))
  · have : W.drew.frozen? ⟨g, j, none⟩ = false := h.2.2
    simpa using this

theorem shl_u8 (m : Int) (n : Nat) (h : (m = 0 ∧ n = 1) ∨ (m = 1 ∧ n = 2) ∨ (m = 2 ∧ n = 4)) : wrap64 (2 ^ m.toNat) = n := by
  rcases h with ⟨rfl, rfl⟩ | ⟨rfl, rfl⟩ | ⟨rfl, rfl⟩ <;> (unfold wrap64; rfl)

set_option maxHeartbeats 4000000 in
theorem whole20_any (b off cap n0 n1 n2 L : Nat) (k0 k1 k2 : Int) (vs : List (Int × Int)) (w : World)
    (e0 : (k0 % 3 = 0 ∧ n0 = 1) ∨ (k0 % 3 = 1 ∧ n0 = 2) ∨ (k0 % 3 = 2 ∧ n0 = 4)) (e1 : (k1 % 3 = 0 ∧ n1 = 1) ∨ (k1 % 3 = 1 ∧ n1 = 2) ∨ (k1 % 3 = 2 ∧ n1 = 4)) (e2 : (k2 % 3 = 0 ∧ n2 = 1) ∨ (k2 % 3 = 1 ∧ n2 = 2) ∨ (k2 % 3 = 2 ∧ n2 = 4))
    (c0 : 0 ≤ k0) (c1 : 0 ≤ k1) (c2 : 0 ≤ k2) (hL : n0 * n1 * n2 = L) (ao : Option Addr) (m : Nat) (hm : vs.length = m) (hmm : m ≤ 281474976710656)
    (hx : ∀ i, i < m → ao = some ⟨b, off, none⟩ ∧ w.cell? ⟨b, off + i * 2, none⟩ = some (.int .i16 (vs.getD i (0, 0)).1) ∧ w.cell? ⟨b, off + i * 2 + 1, none⟩ = some (.int .i16 (vs.getD i (0, 0)).2)) :
    Calls Try.prog 6 #[.agg #[.int .u8 k0, .int .u8 k1, .int .u8 k2], .slice ao m cap] w fun e w' =>
      (∃ g c, e = .returned (gridV n0 n1 n2 (some ⟨g, 0, none⟩) L c) ∧ w.heap.size ≤ g ∧ CArr w' g c (wholeP L vs)) ∧ Bel w w' := by
  obtain ⟨i0, hi, hz0, hz1, hz2⟩ := info_parts info_c
  have S0 := Lib.hid (shl_u8 (k0 % 3) n0 e0)
  have S1 := Lib.hid (shl_u8 (k1 % 3) n1 e1)
  have S2 := Lib.hid (shl_u8 (k2 % 3) n2 e2)
  have hn0 : n0 ≤ 4 := by omega
  have hn1 : n1 ≤ 4 := by omega
  have hn2 : n2 ≤ 4 := by omega
  have HL : Hid (n0 * n1 * n2 = L) := hL
  have HX := Lib.hid hx
  have HM : Hid (vs.length = m) := hm
  clear e0 e1 e2 hL hx hm
  go_enter Try.func6, Try.ntmps6
  go_wp2_with fail
  rw [S0.out, S1.out, S2.out]
  have hp1 : n0 * n1 ≤ 4 * 4 := Nat.mul_le_mul hn0 hn1
  have hp2 : n0 * n1 * n2 ≤ 4 * 4 * 4 := Nat.mul_le_mul hp1 hn2
  have hLs : L ≤ 64 := by rw [← HL.out]; omega
  have q1 : IntKind.i64.wrap ((n0 : Int) * n1) = (n0 : Int) * n1 := IntWalk.i64_in _ (by rw [← Int.natCast_mul]; omega)
  have q2 : IntKind.i64.wrap ((n0 : Int) * n1 * n2) = (L : Int) := by
    rw [← HL.out, Int.natCast_mul, Int.natCast_mul]; exact IntWalk.i64_in _ (by rw [← Int.natCast_mul, ← Int.natCast_mul]; omega)
  have hmk : ∀ W : World, (Instr.makeSlice 27 (.int .i64 (L : Int)) (.int .i64 (L : Int))).run Try.prog W = .ok (.slice (some ⟨W.heap.size, 0, none⟩) L L) (W.alloc (.cells (madeCells #[.complex .f64 0 0] L) 35)) := by
    intro W
    have := run_make (P := Try.prog) W 27 35 i0 _ Try.underlying27 hi hz0 .i64 .i64 L L (by omega) (by omega) (by rw [hz2]; omega) (by omega)
    rw [hz1, Nat.mul_one] at this
    exact this
  generalize hW : World.alloc _ _ = W
  have hsz : W.heap.size = w.heap.size + 1 + 1 + 1 := by rw [← hW]; simp
  have HW : Hid (Bel w W) := by rw [← hW]; exact (((Bel.refl w).alloc _).alloc _).alloc _
  have r0 : W.cell? ⟨w.heap.size + 1 + 1, 0, none⟩ = some (.int .i64 n0) := by rw [← hW]; exact cell_newN _ _ _ 0 _ (by simp)
  have r1 : W.cell? ⟨w.heap.size + 1 + 1, 1, none⟩ = some (.int .i64 n1) := by rw [← hW]; exact cell_newN _ _ _ 1 _ (by simp)
  have r2 : W.cell? ⟨w.heap.size + 1 + 1, 2, none⟩ = some (.int .i64 n2) := by rw [← hW]; exact cell_newN _ _ _ 2 _ (by simp)
  have HRES : Hid (∀ i, i < 4 → W.cell? ⟨w.heap.size + 1, i, none⟩ = some (cellD W ⟨w.heap.size + 1, i, none⟩) ∧ W.frozen? ⟨w.heap.size + 1, i, none⟩ = false) := by
    intro i hi
    rw [← hW]
    exact slot2 ((Bel.refl _).alloc _) i hi
  clear hW S0 S1 S2
  go_region
  · go_wp2_with fail
    generalize hX : World.drew _ = X
    have hgs : w.heap.size + 1 + 1 + 1 < X.heap.size := by rw [← hX]; simp [hsz]
    have hA : CArr X (w.heap.size + 1 + 1 + 1) L (List.replicate L (0, 0)) := by
      rw [← hX]
      exact ((Arr.of_own (base := 0) (by have := World.ownsRow_lit (base := 0) (size := 1) (e := 35) W (madeCells #[.complex .f64 0 0] L) L (Nat.zero_le _) (by unfold maxLen; omega) (by simp [madeCells]); rw [toList_madeCells_one] at this; simpa [List.map_replicate, hsz] using this) : CArr (W.alloc (.cells (madeCells #[.complex .f64 0 0] L) 35)) (w.heap.size + 1 + 1 + 1) L (List.replicate L (0, 0))).alloc _).drew
    have hV : WInv w X (w.heap.size + 1 + 1 + 1 + 1) (w.heap.size + 1 + 1 + 1) n0 n1 n2 L := by
      rw [← hX]
      refine ⟨((HW.out.alloc _).alloc _).drew, ⟨?_, ?_, ?_, ?_⟩, ?_⟩
      · exact cell_newN _ _ _ 0 _ (by simp [hsz])
      · exact cell_newN _ _ _ 1 _ (by simp [hsz])
      · exact cell_newN _ _ _ 2 _ (by simp [hsz])
      · exact cell_newN _ _ _ 3 _ (by simp [hsz])
      · intro i hi
        have hb : Bel W ((W.alloc (.cells (madeCells #[.complex .f64 0 0] L) 35)).alloc (.cells #[.int .i64 n0, .int .i64 n1, .int .i64 n2, .slice (some ⟨w.heap.size + 1 + 1 + 1, 0, none⟩) L L] 29)).drew := (((Bel.refl W).alloc _).alloc _).drew
        have hr := HRES.out i hi
        exact ⟨cellD_eq (hb.cellv hr.1), by rw [hb.frozen (World.block_lt_of_cell? _ _ hr.1)]; exact hr.2⟩
    have HA := Lib.hid hA
    have HV := Lib.hid hV
    clear hX hA hV r0 r1 r2 hmk q1 q2 hp1 hp2 HRES
    go_loopw [35] (fun i wr => ∃ j : Nat, j ≤ L ∧ i = .int .i64 j ∧ CArr wr (w.heap.size + 1 + 1 + 1) L (filled (wholeP L vs) j (0, 0)) ∧ WInv w wr (w.heap.size + 1 + 1 + 1 + 1) (w.heap.size + 1 + 1 + 1) n0 n1 n2 L) (fun i _ => L - (intOf i).toNat)
    case atStart => exact ⟨0, Nat.zero_le _, rfl, HA.out.ext (by rw [filled_zero, wholeP_length]), HV.out⟩
    case round =>
      clear HA HV
      obtain ⟨j, hj, rfl, ha, hv⟩ := hrel
      by_cases hlt : j < L
      · have HA := Lib.hid ha
        have HV := Lib.hid hv
        have hlw := wholeP_length L vs
        have hd := wholeP_get L vs j hlt
        have hn1' : ∀ x : Value, WInv w (wr.setCell ⟨w.heap.size + 1 + 1 + 1, j, none⟩ x) (w.heap.size + 1 + 1 + 1 + 1) (w.heap.size + 1 + 1 + 1) n0 n1 n2 L := fun x => HV.out.store j x (by omega) (by omega) (by omega)
        by_cases hjm : j < m
        · obtain ⟨rfl, x1, x2⟩ := HX.out j hjm
          have hjm' : j < vs.length := by rw [HM.out]; exact hjm
          have HD : Hid ((wholeP L vs).getD j (0, 0) = (floatOfInt .f64 (vs.getD j (0, 0)).1, floatOfInt .f64 (vs.getD j (0, 0)).2)) := by
            unfold Hid; rw [hd]; unfold wholeAt; rw [if_pos hjm']
          have oc := cellD_eq (ha.cell (i := j) (by rw [filled_length, hlw]; exact hlt) (0, 0))
          have off' := ha.frozen j
          have y1 := hv.1.cellv x1
          have y2 := hv.1.cellv x2
          have y3 := hv.2.1.2.2.2
          generalize hxx : (vs.getD j (0, 0)).1 = xx at x1 y1 HD
          generalize hyy : (vs.getD j (0, 0)).2 = yy at x2 y2 HD
          have HS0 : Hid ((wr.cell? ⟨b, off + j * 2, none⟩ = some (.int .i16 xx) ∧ wr.cell? ⟨b, off + j * 2 + 1, none⟩ = some (.int .i16 yy) ∧ wr.cell? ⟨w.heap.size + 1 + 1 + 1 + 1, 3, none⟩ = some (.slice (some ⟨w.heap.size + 1 + 1 + 1, 0, none⟩) L L)) ∧ wr.cell? ⟨w.heap.size + 1 + 1 + 1, j, none⟩ = some (cellD wr ⟨w.heap.size + 1 + 1 + 1, j, none⟩) ∧ wr.frozen? ⟨w.heap.size + 1 + 1 + 1, j, none⟩ = false) := ⟨⟨y1, y2, y3⟩, oc, off'⟩
          have hbl := World.block_lt_of_cell? w _ x1
          have HNE : Hid (b < w.heap.size) := hbl
          have hjL : (j : Int) < L := by omega
          have hjm2 : (j : Int) < m := by omega
          clear ha hv hlw hd x1 x2 y1 y2 y3 oc off' hxx hyy hjm' hbl
          go_wp2_with fail
          go_region_held3 (fun w' => (w'.cell? ⟨b, off + j * 2, none⟩ = some (.int .i16 xx) ∧ w'.cell? ⟨b, off + j * 2 + 1, none⟩ = some (.int .i16 yy) ∧ w'.cell? ⟨w.heap.size + 1 + 1 + 1 + 1, 3, none⟩ = some (.slice (some ⟨w.heap.size + 1 + 1 + 1, 0, none⟩) L L)) ∧ w'.cell? ⟨w.heap.size + 1 + 1 + 1, j, none⟩ = some (cellD w' ⟨w.heap.size + 1 + 1 + 1, j, none⟩) ∧ w'.frozen? ⟨w.heap.size + 1 + 1 + 1, j, none⟩ = false) (first | exact HS0.out | exact s5_keep HS0.out (by show b ≠ _; have := HNE.out; omega) (by show b ≠ _; have := HNE.out; omega) (by show (w.heap.size + 1 + 1 + 1 + 1 : Nat) ≠ (w.heap.size + 1 + 1 + 1 : Nat); omega) _) (fail)
          go_wp2_with fail
          have A1 : CArr (wr.setCell ⟨w.heap.size + 1 + 1 + 1, j, none⟩ (cVal (floatOfInt .f64 xx, floatOfInt .f64 yy))) (w.heap.size + 1 + 1 + 1) L (filled (wholeP L vs) (j + 1) (0, 0)) :=
            (HA.out.store j (floatOfInt .f64 xx, floatOfInt .f64 yy)).ext (by rw [← HD.out]; exact filled_succ _ j (0, 0))
          have V1 := hn1' (cVal (floatOfInt .f64 xx, floatOfInt .f64 yy))
          go_roundw
          case rel => exact ⟨j + 1, by omega, by go_num, A1.drew, V1.drew⟩
          case measure => simp [intOf]; omega
        · have hjm' : ¬ j < vs.length := by rw [HM.out]; exact hjm
          have HD : Hid ((wholeP L vs).getD j (0, 0) = (0, 0)) := by
            unfold Hid; rw [hd]; unfold wholeAt; rw [if_neg hjm']
          have HF : Hid (filled (wholeP L vs) j (0, 0) = filled (wholeP L vs) (j + 1) (0, 0)) := by
            unfold Hid
            unfold filled
            refine List.map_congr_left fun i hi => ?_
            by_cases e : i = j
            · subst e; rw [if_neg (by omega), if_pos (by omega), HD.out]
            · by_cases e2 : i < j
              · rw [if_pos e2, if_pos (by omega)]
              · rw [if_neg e2, if_neg (by omega)]
          clear ha hv hlw hd hjm'
          go_wp2
          go_roundw
          case rel => exact ⟨j + 1, by omega, by go_num, HA.out.ext HF.out, HV.out⟩
          case measure => simp [intOf]; omega
      · have : j = L := by omega
        subst this
        have HA : Hid (CArr wr (w.heap.size + 1 + 1 + 1) j (wholeP j vs)) := ha.ext (by have := filled_all (wholeP j vs) (0, 0); rw [wholeP_length] at this; exact this)
        have HV := Lib.hid hv
        obtain ⟨hb, ⟨y0, y1, y2, y3⟩, hres⟩ := hv
        obtain ⟨r0, r0'⟩ := hres 0 (by omega)
        obtain ⟨r1, r1'⟩ := hres 1 (by omega)
        obtain ⟨r2, r2'⟩ := hres 2 (by omega)
        obtain ⟨r3, r3'⟩ := hres 3 (by omega)
        clear hb hres ha
        go_wp2_with fail
        have hne : w.heap.size + 1 ≠ w.heap.size + 1 + 1 + 1 := by omega
        have hle : w.heap.size ≤ w.heap.size + 1 := by omega
        refine bodyPost_ret (v := gridV n0 n1 n2 (some ⟨w.heap.size + 1 + 1 + 1, 0, none⟩) j j) (by simp [results, Try.results6, go_sem, r0, r1, r2, r3]) rfl ⟨⟨_, _, rfl, by omega, ?_⟩, ?_⟩
        · exact (((HA.out.setOther hne _).setOther hne _).setOther hne _).setOther hne _
        · exact (((HV.out.1.setCell hle _).setCell hle _).setCell hle _).setCell hle _
  · go_wp2_with fail
    generalize hX : World.drew _ = X
    have hgs : w.heap.size + 1 + 1 + 1 + 1 < X.heap.size := by rw [← hX]; simp [hsz]
    have hA : CArr X (w.heap.size + 1 + 1 + 1 + 1) L (List.replicate L (0, 0)) := by
      rw [← hX]
      exact (Arr.of_own (base := 0) (by have := World.ownsRow_lit (base := 0) (size := 1) (e := 35) (W.alloc (.cells #[.int .i64 n0, .int .i64 n1, .int .i64 n2, .slice (some ⟨w.heap.size + 1 + 1 + 1 + 1, 0, none⟩) L L] 29)) (madeCells #[.complex .f64 0 0] L) L (Nat.zero_le _) (by unfold maxLen; omega) (by simp [madeCells]); rw [toList_madeCells_one] at this; simpa [List.map_replicate, hsz, size_alloc'] using this) : CArr ((W.alloc (.cells #[.int .i64 n0, .int .i64 n1, .int .i64 n2, .slice (some ⟨w.heap.size + 1 + 1 + 1 + 1, 0, none⟩) L L] 29)).alloc (.cells (madeCells #[.complex .f64 0 0] L) 35)) (w.heap.size + 1 + 1 + 1 + 1) L (List.replicate L (0, 0))).drew
    have hV : WInv w X (w.heap.size + 1 + 1 + 1) (w.heap.size + 1 + 1 + 1 + 1) n0 n1 n2 L := by
      rw [← hX]
      refine ⟨((HW.out.alloc _).alloc _).drew, ⟨?_, ?_, ?_, ?_⟩, ?_⟩
      · exact ((Bel.refl _).alloc _).cellv (cell_newN _ _ _ 0 _ hsz)
      · exact ((Bel.refl _).alloc _).cellv (cell_newN _ _ _ 1 _ hsz)
      · exact ((Bel.refl _).alloc _).cellv (cell_newN _ _ _ 2 _ hsz)
      · exact ((Bel.refl _).alloc _).cellv (cell_newN _ _ _ 3 _ hsz)
      · intro i hi
        have hb : Bel W ((W.alloc (.cells #[.int .i64 n0, .int .i64 n1, .int .i64 n2, .slice (some ⟨w.heap.size + 1 + 1 + 1 + 1, 0, none⟩) L L] 29)).alloc (.cells (madeCells #[.complex .f64 0 0] L) 35)).drew := (((Bel.refl W).alloc _).alloc _).drew
        have hr := HRES.out i hi
        exact ⟨cellD_eq (hb.cellv hr.1), by rw [hb.frozen (World.block_lt_of_cell? _ _ hr.1)]; exact hr.2⟩
    have HA := Lib.hid hA
    have HV := Lib.hid hV
    clear hX hA hV r0 r1 r2 hmk q1 q2 hp1 hp2 HRES
    go_loopw [35] (fun i wr => ∃ j : Nat, j ≤ L ∧ i = .int .i64 j ∧ CArr wr (w.heap.size + 1 + 1 + 1 + 1) L (filled (wholeP L vs) j (0, 0)) ∧ WInv w wr (w.heap.size + 1 + 1 + 1) (w.heap.size + 1 + 1 + 1 + 1) n0 n1 n2 L) (fun i _ => L - (intOf i).toNat)
    case atStart => exact ⟨0, Nat.zero_le _, rfl, HA.out.ext (by rw [filled_zero, wholeP_length]), HV.out⟩
    case round =>
      clear HA HV
      obtain ⟨j, hj, rfl, ha, hv⟩ := hrel
      by_cases hlt : j < L
      · have HA := Lib.hid ha
        have HV := Lib.hid hv
        have hlw := wholeP_length L vs
        have hd := wholeP_get L vs j hlt
        have hn1' : ∀ x : Value, WInv w (wr.setCell ⟨w.heap.size + 1 + 1 + 1 + 1, j, none⟩ x) (w.heap.size + 1 + 1 + 1) (w.heap.size + 1 + 1 + 1 + 1) n0 n1 n2 L := fun x => HV.out.store j x (by omega) (by omega) (by omega)
        by_cases hjm : j < m
        · obtain ⟨rfl, x1, x2⟩ := HX.out j hjm
          have hjm' : j < vs.length := by rw [HM.out]; exact hjm
          have HD : Hid ((wholeP L vs).getD j (0, 0) = (floatOfInt .f64 (vs.getD j (0, 0)).1, floatOfInt .f64 (vs.getD j (0, 0)).2)) := by
            unfold Hid; rw [hd]; unfold wholeAt; rw [if_pos hjm']
          have oc := cellD_eq (ha.cell (i := j) (by rw [filled_length, hlw]; exact hlt) (0, 0))
          have off' := ha.frozen j
          have y1 := hv.1.cellv x1
          have y2 := hv.1.cellv x2
          have y3 := hv.2.1.2.2.2
          generalize hxx : (vs.getD j (0, 0)).1 = xx at x1 y1 HD
          generalize hyy : (vs.getD j (0, 0)).2 = yy at x2 y2 HD
          have HS0 : Hid ((wr.cell? ⟨b, off + j * 2, none⟩ = some (.int .i16 xx) ∧ wr.cell? ⟨b, off + j * 2 + 1, none⟩ = some (.int .i16 yy) ∧ wr.cell? ⟨w.heap.size + 1 + 1 + 1, 3, none⟩ = some (.slice (some ⟨w.heap.size + 1 + 1 + 1 + 1, 0, none⟩) L L)) ∧ wr.cell? ⟨w.heap.size + 1 + 1 + 1 + 1, j, none⟩ = some (cellD wr ⟨w.heap.size + 1 + 1 + 1 + 1, j, none⟩) ∧ wr.frozen? ⟨w.heap.size + 1 + 1 + 1 + 1, j, none⟩ = false) := ⟨⟨y1, y2, y3⟩, oc, off'⟩
          have hbl := World.block_lt_of_cell? w _ x1
          have HNE : Hid (b < w.heap.size) := hbl
          have hjL : (j : Int) < L := by omega
          have hjm2 : (j : Int) < m := by omega
          clear ha hv hlw hd x1 x2 y1 y2 y3 oc off' hxx hyy hjm' hbl
          go_wp2_with fail
          go_region_held3 (fun w' => (w'.cell? ⟨b, off + j * 2, none⟩ = some (.int .i16 xx) ∧ w'.cell? ⟨b, off + j * 2 + 1, none⟩ = some (.int .i16 yy) ∧ w'.cell? ⟨w.heap.size + 1 + 1 + 1, 3, none⟩ = some (.slice (some ⟨w.heap.size + 1 + 1 + 1 + 1, 0, none⟩) L L)) ∧ w'.cell? ⟨w.heap.size + 1 + 1 + 1 + 1, j, none⟩ = some (cellD w' ⟨w.heap.size + 1 + 1 + 1 + 1, j, none⟩) ∧ w'.frozen? ⟨w.heap.size + 1 + 1 + 1 + 1, j, none⟩ = false) (first | exact HS0.out | exact s5_keep HS0.out (by show b ≠ _; have := HNE.out; omega) (by show b ≠ _; have := HNE.out; omega) (by show (w.heap.size + 1 + 1 + 1 : Nat) ≠ (w.heap.size + 1 + 1 + 1 + 1 : Nat); omega) _) (fail)
          go_wp2_with fail
          have A1 : CArr (wr.setCell ⟨w.heap.size + 1 + 1 + 1 + 1, j, none⟩ (cVal (floatOfInt .f64 xx, floatOfInt .f64 yy))) (w.heap.size + 1 + 1 + 1 + 1) L (filled (wholeP L vs) (j + 1) (0, 0)) :=
            (HA.out.store j (floatOfInt .f64 xx, floatOfInt .f64 yy)).ext (by rw [← HD.out]; exact filled_succ _ j (0, 0))
          have V1 := hn1' (cVal (floatOfInt .f64 xx, floatOfInt .f64 yy))
          go_roundw
          case rel => exact ⟨j + 1, by omega, by go_num, A1.drew, V1.drew⟩
          case measure => simp [intOf]; omega
        · have hjm' : ¬ j < vs.length := by rw [HM.out]; exact hjm
          have HD : Hid ((wholeP L vs).getD j (0, 0) = (0, 0)) := by
            unfold Hid; rw [hd]; unfold wholeAt; rw [if_neg hjm']
          have HF : Hid (filled (wholeP L vs) j (0, 0) = filled (wholeP L vs) (j + 1) (0, 0)) := by
            unfold Hid
            unfold filled
            refine List.map_congr_left fun i hi => ?_
            by_cases e : i = j
            · subst e; rw [if_neg (by omega), if_pos (by omega), HD.out]
            · by_cases e2 : i < j
              · rw [if_pos e2, if_pos (by omega)]
              · rw [if_neg e2, if_neg (by omega)]
          clear ha hv hlw hd hjm'
          go_wp2
          go_roundw
          case rel => exact ⟨j + 1, by omega, by go_num, HA.out.ext HF.out, HV.out⟩
          case measure => simp [intOf]; omega
      · have : j = L := by omega
        subst this
        have HA : Hid (CArr wr (w.heap.size + 1 + 1 + 1 + 1) j (wholeP j vs)) := ha.ext (by have := filled_all (wholeP j vs) (0, 0); rw [wholeP_length] at this; exact this)
        have HV := Lib.hid hv
        obtain ⟨hb, ⟨y0, y1, y2, y3⟩, hres⟩ := hv
        obtain ⟨r0, r0'⟩ := hres 0 (by omega)
        obtain ⟨r1, r1'⟩ := hres 1 (by omega)
        obtain ⟨r2, r2'⟩ := hres 2 (by omega)
        obtain ⟨r3, r3'⟩ := hres 3 (by omega)
        clear hb hres ha
        go_wp2_with fail
        have hne : w.heap.size + 1 ≠ w.heap.size + 1 + 1 + 1 + 1 := by omega
        have hle : w.heap.size ≤ w.heap.size + 1 := by omega
        refine bodyPost_ret (v := gridV n0 n1 n2 (some ⟨w.heap.size + 1 + 1 + 1 + 1, 0, none⟩) j j) (by simp [results, Try.results6, go_sem, r0, r1, r2, r3]) rfl ⟨⟨_, _, rfl, by omega, ?_⟩, ?_⟩
        · exact (((HA.out.setOther hne _).setOther hne _).setOther hne _).setOther hne _
        · exact (((HV.out.1.setCell hle _).setCell hle _).setCell hle _).setCell hle _

end Go.Proofs.Ytdeigbbilcjgjaa
