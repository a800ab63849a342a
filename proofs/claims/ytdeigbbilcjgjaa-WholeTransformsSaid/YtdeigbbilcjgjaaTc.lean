/-
  The walk of facettop.whole.
-/
import Derived.Test.YtdeigbbilcjgjaaTb
import Derived.Test.YtdeigbbilcjgjaaXb
namespace Go.Proofs.Ytdeigbbilcjgjaa
open Go.RowKit
set_option linter.unusedVariables false
set_option linter.unusedSimpArgs false

/-- The pair of numbers that is laid at a place: out of m numbers zs. -/
def topAt (zs : Nat → Int) (m i : Nat) : Int × Int := if 2 * i + 1 < m then (zs (2 * i), zs (2 * i + 1)) else if 0 < m then ((zs (i % m)).tmod 7, 0) else (0, 0)
def topVs (zs : Nat → Int) (m L : Nat) : List (Int × Int) := (List.range L).map (topAt zs m)
theorem topVs_length (zs : Nat → Int) (m L : Nat) : (topVs zs m L).length = L := by simp [topVs]
theorem topVs_get (zs : Nat → Int) (m L i : Nat) (h : i < L) : (topVs zs m L).getD i (0, 0) = topAt zs m i := by simp [topVs, h]
theorem float_zero : floatOfInt .f64 0 = 0 := by decide +kernel
theorem topP_get (zs : Nat → Int) (m L i : Nat) (h : i < L) : (wholeP L (topVs zs m L)).getD i (0, 0) = (floatOfInt .f64 (topAt zs m i).1, floatOfInt .f64 (topAt zs m i).2) := by
  rw [wholeP_get L _ i h]
  unfold wholeAt
  rw [if_pos (by rw [topVs_length]; exact h), topVs_get zs m L i h]
theorem tmod7 (x : Int) : -6 ≤ x.tmod 7 ∧ x.tmod 7 ≤ 6 := by
  have h1 := Int.tmod_lt_of_pos x (show (0 : Int) < 7 by decide)
  have h2 := Int.tmod_lt_of_pos (-x) (show (0 : Int) < 7 by decide)
  rw [Int.neg_tmod] at h2
  omega
theorem s4_keep {W : World} {p1 p2 : Addr} {u1 u2 : Value} {g j : Nat} (h : (W.cell? p1 = some u1 ∧ W.cell? p2 = some u2) ∧ W.cell? ⟨g, j, none⟩ = some (cellD W ⟨g, j, none⟩) ∧ W.frozen? ⟨g, j, none⟩ = false)
    (h1 : p1.block ≠ g) (h2 : p2.block ≠ g) (v : Value) :
    ((W.drew.setCell ⟨g, j, none⟩ v).cell? p1 = some u1 ∧ (W.drew.setCell ⟨g, j, none⟩ v).cell? p2 = some u2) ∧ (W.drew.setCell ⟨g, j, none⟩ v).cell? ⟨g, j, none⟩ = some (cellD (W.drew.setCell ⟨g, j, none⟩ v) ⟨g, j, none⟩) ∧ (W.drew.setCell ⟨g, j, none⟩ v).frozen? ⟨g, j, none⟩ = false := by
  have e : ∀ p, W.drew.cell? p = W.cell? p := fun _ => rfl
  refine ⟨⟨far_cell h1 (by rw [e]; exact h.1.1), far_cell h2 (by rw [e]; exact h.1.2)⟩, ?_, ?_⟩
  · exact cellD_eq (World.cell?_setCell_same' _ _ v (by rw [e, h.2.1]; rfl))
  · have : W.drew.frozen? ⟨g, j, none⟩ = false := h.2.2
    simpa using this

set_option maxHeartbeats 4000000 in
theorem whole12_any (b off cap n0 n1 n2 L : Nat) (zs : Nat → Int) (w : World) (hn0 : n0 ≤ 12) (hn1 : n1 ≤ 12) (hn2 : n2 ≤ 12) (hL : n0 * n1 * n2 = L) (ao : Option Addr) (m : Nat) (hmm : m ≤ 281474976710656)
    (hx : ∀ i, i < m → ao = some ⟨b, off, none⟩ ∧ w.cell? ⟨b, off + i, none⟩ = some (.int .i16 (zs i)) ∧ -32768 ≤ zs i ∧ zs i ≤ 32767) :
    Calls Try.prog 12 #[.agg #[.int .i64 n0, .int .i64 n1, .int .i64 n2], .slice ao m cap] w fun e w' =>
      (∃ g c, e = .returned (gridV n0 n1 n2 (some ⟨g, 0, none⟩) L c) ∧ w.heap.size ≤ g ∧ CArr w' g c (wholeP L (topVs zs m L))) ∧ Bel w w' := by
  obtain ⟨i0, hi, hz0, hz1, hz2⟩ := info_parts info_c
  have HL : Hid (n0 * n1 * n2 = L) := hL
  have HX := Lib.hid hx
  clear hL hx
  have hp1 : n0 * n1 ≤ 12 * 12 := Nat.mul_le_mul hn0 hn1
  have hp2 : n0 * n1 * n2 ≤ 12 * 12 * 12 := Nat.mul_le_mul hp1 hn2
  have hLs : L ≤ 1728 := by rw [← HL.out]; omega
  have q1 : IntKind.i64.wrap ((n0 : Int) * n1) = (n0 : Int) * n1 := IntWalk.i64_in _ (by rw [← Int.natCast_mul]; omega)
  have q2 : IntKind.i64.wrap ((n0 : Int) * n1 * n2) = (L : Int) := by
    rw [← HL.out, Int.natCast_mul, Int.natCast_mul]; exact IntWalk.i64_in _ (by rw [← Int.natCast_mul, ← Int.natCast_mul]; omega)
  have hmk : ∀ W : World, (Instr.makeSlice 27 (.int .i64 (L : Int)) (.int .i64 (L : Int))).run Try.prog W = .ok (.slice (some ⟨W.heap.size, 0, none⟩) L L) (W.alloc (.cells (madeCells #[.complex .f64 0 0] L) 35)) := by
    intro W
    have := run_make (P := Try.prog) W 27 35 i0 _ Try.underlying27 hi hz0 .i64 .i64 L L (by omega) (by omega) (by rw [hz2]; omega) (by omega)
    rw [hz1, Nat.mul_one] at this
    exact this
  go_enter Try.func12, Try.ntmps12
  go_wp2_with fail
  generalize hW : World.alloc _ _ = W
  have hsz : W.heap.size = w.heap.size + 1 + 1 := by rw [← hW]; simp
  have HW : Hid (Bel w W) := by rw [← hW]; exact ((Bel.refl w).alloc _).alloc _
  have r0 : W.cell? ⟨w.heap.size, 0, none⟩ = some (.int .i64 n0) := by rw [← hW]; exact ((Bel.refl _).alloc _).cellv (cell_new w _ _ 0)
  have r1 : W.cell? ⟨w.heap.size, 1, none⟩ = some (.int .i64 n1) := by rw [← hW]; exact ((Bel.refl _).alloc _).cellv (cell_new w _ _ 1)
  have r2 : W.cell? ⟨w.heap.size, 2, none⟩ = some (.int .i64 n2) := by rw [← hW]; exact ((Bel.refl _).alloc _).cellv (cell_new w _ _ 2)
  have HRES : Hid (∀ i, i < 4 → W.cell? ⟨w.heap.size + 1, i, none⟩ = some (cellD W ⟨w.heap.size + 1, i, none⟩) ∧ W.frozen? ⟨w.heap.size + 1, i, none⟩ = false) := by
    intro i hi
    rw [← hW]
    exact slot2 (Bel.refl _) i hi
  clear hW
  go_region
  · go_wp2_with fail
    generalize hX : World.drew _ = X
    have hgs : w.heap.size + 1 + 1 < X.heap.size := by rw [← hX]; simp [hsz]
    have hA : CArr X (w.heap.size + 1 + 1) L (List.replicate L (0, 0)) := by
      rw [← hX]
      exact ((Arr.of_own (base := 0) (by have := World.ownsRow_lit (base := 0) (size := 1) (e := 35) W (madeCells #[.complex .f64 0 0] L) L (Nat.zero_le _) (by unfold maxLen; omega) (by simp [madeCells]); rw [toList_madeCells_one] at this; simpa [List.map_replicate, hsz, size_alloc'] using this) : CArr (W.alloc (.cells (madeCells #[.complex .f64 0 0] L) 35)) (w.heap.size + 1 + 1) L (List.replicate L (0, 0))).alloc _).drew
    have hV : WInv w X (w.heap.size + 1 + 1 + 1) (w.heap.size + 1 + 1) n0 n1 n2 L := by
      rw [← hX]
      refine ⟨((HW.out.alloc _).alloc _).drew, ⟨?_, ?_, ?_, ?_⟩, ?_⟩
      · exact cell_newN _ _ _ 0 _ (by simp [hsz])
      · exact cell_newN _ _ _ 1 _ (by simp [hsz])
      · exact cell_newN _ _ _ 2 _ (by simp [hsz])
      · exact cell_newN _ _ _ 3 _ (by simp [hsz])
      · intro i hi
        have hb : Bel W ((W.alloc (.cells (madeCells #[.complex .f64 0 0] L) 35)).alloc (.cells #[.int .i64 n0, .int .i64 n1, .int .i64 n2, .slice (some ⟨w.heap.size + 1 + 1, 0, none⟩) L L] 29)).drew := (((Bel.refl W).alloc _).alloc _).drew
        have hr := HRES.out i hi
        exact ⟨cellD_eq (hb.cellv hr.1), by rw [hb.frozen (World.block_lt_of_cell? _ _ hr.1)]; exact hr.2⟩
    have HA := Lib.hid hA
    have HV := Lib.hid hV
    clear hX hA hV r0 r1 r2 hmk q1 q2 hp1 hp2 HRES
    go_loopw [6] (fun i wr => ∃ j : Nat, j ≤ L ∧ i = .int .i64 j ∧ CArr wr (w.heap.size + 1 + 1) L (filled (wholeP L (topVs zs m L)) j (0, 0)) ∧ WInv w wr (w.heap.size + 1 + 1 + 1) (w.heap.size + 1 + 1) n0 n1 n2 L) (fun i _ => L - (intOf i).toNat)
    case atStart => exact ⟨0, Nat.zero_le _, rfl, HA.out.ext (by rw [filled_zero, wholeP_length]), HV.out⟩
    case round =>
      clear HA HV
      obtain ⟨j, hj, rfl, ha, hv⟩ := hrel
      have y3 := hv.2.1.2.2.2
      by_cases hlt : j < L
      · have HA := Lib.hid ha
        have HV := Lib.hid hv
        have hlw := wholeP_length L (topVs zs m L)
        have hd := topP_get zs m L j hlt
        have hn1' : ∀ x : Value, WInv w (wr.setCell ⟨w.heap.size + 1 + 1, j, none⟩ x) (w.heap.size + 1 + 1 + 1) (w.heap.size + 1 + 1) n0 n1 n2 L := fun x => HV.out.store j x (by omega) (by omega) (by omega)
        have hjL : (j : Int) < L := by omega
        have d1 : IntKind.i64.wrap (2 * (j : Int)) = ((2 * j : Nat) : Int) := by rw [IntWalk.i64_in _ (by omega)]; simp
        have d2 : IntKind.i64.wrap (((2 * j : Nat) : Int) + 1) = ((2 * j + 1 : Nat) : Int) := by rw [IntWalk.i64_in _ (by omega)]; simp
        have oc := cellD_eq (ha.cell (i := j) (by rw [filled_length, hlw]; exact hlt) (0, 0))
        have off' := ha.frozen j
        by_cases hjm : 2 * j + 1 < m
        · obtain ⟨rfl, x1, _, _⟩ := HX.out (2 * j) (by omega)
          obtain ⟨_, x2, _, _⟩ := HX.out (2 * j + 1) hjm
          have hta : topAt zs m j = (zs (2 * j), zs (2 * j + 1)) := by unfold topAt; rw [if_pos hjm]
          rw [hta] at hd
          have HD := Lib.hid hd
          have y1 := hv.1.cellv x1
          have y2 := hv.1.cellv x2
          generalize hxx : zs (2 * j) = xx at x1 y1 HD
          generalize hyy : zs (2 * j + 1) = yy at x2 y2 HD
          have HS0 : Hid ((wr.cell? ⟨b, off + 2 * j, none⟩ = some (.int .i16 xx) ∧ wr.cell? ⟨b, off + (2 * j + 1), none⟩ = some (.int .i16 yy) ∧ wr.cell? ⟨w.heap.size + 1 + 1 + 1, 3, none⟩ = some (.slice (some ⟨w.heap.size + 1 + 1, 0, none⟩) L L)) ∧ wr.cell? ⟨w.heap.size + 1 + 1, j, none⟩ = some (cellD wr ⟨w.heap.size + 1 + 1, j, none⟩) ∧ wr.frozen? ⟨w.heap.size + 1 + 1, j, none⟩ = false) := ⟨⟨y1, y2, y3⟩, oc, off'⟩
          have hbl := World.block_lt_of_cell? w _ x1
          have HNE : Hid (b < w.heap.size) := hbl
          have i1 : (0 : Int) ≤ ((2 * j : Nat) : Int) ∧ ((2 * j : Nat) : Int) < m := by omega
          have i2 : (0 : Int) ≤ ((2 * j + 1 : Nat) : Int) ∧ ((2 * j + 1 : Nat) : Int) < m := by omega
          obtain ⟨i1a, i1b⟩ := i1
          obtain ⟨i2a, i2b⟩ := i2
          generalize hu : 2 * j = u at *
          generalize hu1 : u + 1 = u1 at *
          clear ha hv hlw hd hta x1 x2 y1 y2 oc off' hxx hyy hbl hjm
          go_wp2_with fail
          clear y3
          go_region_held3 (fun w' => (w'.cell? ⟨b, off + u, none⟩ = some (.int .i16 xx) ∧ w'.cell? ⟨b, off + u1, none⟩ = some (.int .i16 yy) ∧ w'.cell? ⟨w.heap.size + 1 + 1 + 1, 3, none⟩ = some (.slice (some ⟨w.heap.size + 1 + 1, 0, none⟩) L L)) ∧ w'.cell? ⟨w.heap.size + 1 + 1, j, none⟩ = some (cellD w' ⟨w.heap.size + 1 + 1, j, none⟩) ∧ w'.frozen? ⟨w.heap.size + 1 + 1, j, none⟩ = false) (first | exact HS0.out | exact s5_keep HS0.out (by show b ≠ _; have := HNE.out; omega) (by show b ≠ _; have := HNE.out; omega) (by show (w.heap.size + 1 + 1 + 1 : Nat) ≠ (w.heap.size + 1 + 1 : Nat); omega) _) (fail)
          go_wp2_with fail
          have A1 : CArr (wr.setCell ⟨w.heap.size + 1 + 1, j, none⟩ (cVal (floatOfInt .f64 xx, floatOfInt .f64 yy))) (w.heap.size + 1 + 1) L (filled (wholeP L (topVs zs m L)) (j + 1) (0, 0)) :=
            (HA.out.store j (floatOfInt .f64 xx, floatOfInt .f64 yy)).ext (by rw [← HD.out]; exact filled_succ _ j (0, 0))
          have V1 := hn1' (cVal (floatOfInt .f64 xx, floatOfInt .f64 yy))
          go_roundw
          case rel => exact ⟨j + 1, by omega, by go_num, A1.drew, V1.drew⟩
          case measure => simp [intOf]; omega
        · by_cases h0 : 0 < m
          · have hjm0 : j % m < m := Nat.mod_lt _ h0
            obtain ⟨rfl, x1, z1, z2⟩ := HX.out (j % m) hjm0
            have hta : topAt zs m j = ((zs (j % m)).tmod 7, 0) := by unfold topAt; rw [if_neg hjm, if_pos h0]
            rw [hta] at hd
            have HD := Lib.hid hd
            have y1 := hv.1.cellv x1
            have e1 : (j : Int).tmod m = ((j % m : Nat) : Int) := by rw [Int.tmod_eq_emod_of_nonneg (by omega), Int.natCast_emod]
            generalize hxx : zs (j % m) = xx at x1 y1 HD z1 z2
            generalize hu : j % m = u at *
            have hbl := World.block_lt_of_cell? w _ x1
            have HNE : Hid (b < w.heap.size) := hbl
            have HS0 : Hid ((wr.cell? ⟨b, off + u, none⟩ = some (.int .i16 xx) ∧ wr.cell? ⟨w.heap.size + 1 + 1 + 1, 3, none⟩ = some (.slice (some ⟨w.heap.size + 1 + 1, 0, none⟩) L L)) ∧ wr.cell? ⟨w.heap.size + 1 + 1, j, none⟩ = some (cellD wr ⟨w.heap.size + 1 + 1, j, none⟩) ∧ wr.frozen? ⟨w.heap.size + 1 + 1, j, none⟩ = false) := ⟨⟨y1, y3⟩, oc, off'⟩
            have i2b : ¬ (((2 * j + 1 : Nat) : Int) < m) := by omega
            have h0' : (0 : Int) < m := by omega
            have hm0 : ((m : Int) == 0) = false := by simp; omega
            have hm1 : ¬ ((m : Int) = 0) := by omega
            have hm2 : m ≠ 0 := by omega
            have w1 : IntKind.i64.wrap (u : Int) = (u : Int) := IntWalk.i64_in _ (by omega)
            have w2 : IntKind.i64.wrap xx = xx := IntWalk.i64_in _ (by omega)
            have t7 := tmod7 xx
            have w3 : IntKind.i64.wrap (xx.tmod 7) = xx.tmod 7 := IntWalk.i64_in _ (by omega)
            have ua : (0 : Int) ≤ (u : Int) := by omega
            have ub : (u : Int) < m := by omega
            clear t7
            have fz := float_zero
            generalize hu1 : 2 * j + 1 = u1 at *
            generalize hu2 : 2 * j = u2 at *
            clear ha hv hlw hd hta x1 y1 oc off' hxx hbl hjm hu z1 z2
            go_wp2_with fail
            clear y3
            go_region_held3 (fun w' => (w'.cell? ⟨b, off + u, none⟩ = some (.int .i16 xx) ∧ w'.cell? ⟨w.heap.size + 1 + 1 + 1, 3, none⟩ = some (.slice (some ⟨w.heap.size + 1 + 1, 0, none⟩) L L)) ∧ w'.cell? ⟨w.heap.size + 1 + 1, j, none⟩ = some (cellD w' ⟨w.heap.size + 1 + 1, j, none⟩) ∧ w'.frozen? ⟨w.heap.size + 1 + 1, j, none⟩ = false) (first | exact HS0.out | exact s4_keep HS0.out (by show b ≠ _; have := HNE.out; omega) (by show (w.heap.size + 1 + 1 + 1 : Nat) ≠ (w.heap.size + 1 + 1 : Nat); omega) _) (fail)
            go_wp2_with fail
            have A1 : CArr (wr.setCell ⟨w.heap.size + 1 + 1, j, none⟩ (cVal (floatOfInt .f64 (xx.tmod 7), 0))) (w.heap.size + 1 + 1) L (filled (wholeP L (topVs zs m L)) (j + 1) (0, 0)) :=
              (HA.out.store j (floatOfInt .f64 (xx.tmod 7), 0)).ext (by
                have e := HD.out
                rw [fz] at e
                rw [← e]; exact filled_succ _ j (0, 0))
            have V1 := hn1' (cVal (floatOfInt .f64 (xx.tmod 7), 0))
            go_roundw
            case rel => exact ⟨j + 1, by omega, by go_num, A1.drew, V1.drew⟩
            case measure => simp [intOf]; omega
          · have hta : topAt zs m j = (0, 0) := by unfold topAt; rw [if_neg hjm, if_neg h0]
            rw [hta] at hd
            have HD : Hid ((wholeP L (topVs zs m L)).getD j (0, 0) = (0, 0)) := by
              unfold Hid; rw [hd]; show (floatOfInt .f64 0, floatOfInt .f64 0) = (0, 0); rw [float_zero]
            have HF : Hid (filled (wholeP L (topVs zs m L)) j (0, 0) = filled (wholeP L (topVs zs m L)) (j + 1) (0, 0)) := by
              unfold Hid
              unfold filled
              refine List.map_congr_left fun i hi => ?_
              by_cases e : i = j
              · subst e; rw [if_neg (by omega), if_pos (by omega), HD.out]
              · by_cases e2 : i < j
                · rw [if_pos e2, if_pos (by omega)]
                · rw [if_neg e2, if_neg (by omega)]
            have i2b : ¬ (((2 * j + 1 : Nat) : Int) < m) := by omega
            have h0' : ¬ ((0 : Int) < m) := by omega
            generalize hu1 : 2 * j + 1 = u1 at *
            generalize hu2 : 2 * j = u2 at *
            clear ha hv hlw hd hta oc off' hjm
            go_wp2
            go_roundw
            case rel => exact ⟨j + 1, by omega, by go_num, HA.out.ext HF.out, HV.out⟩
            case measure => simp [intOf]; omega
      · have : j = L := by omega
        subst this
        have HA : Hid (CArr wr (w.heap.size + 1 + 1) j (wholeP j (topVs zs m j))) := ha.ext (by have := filled_all (wholeP j (topVs zs m j)) (0, 0); rw [wholeP_length] at this; exact this)
        have HV := Lib.hid hv
        clear y3
        obtain ⟨hb, ⟨y0, y1, y2, y3⟩, hres⟩ := hv
        obtain ⟨r0, r0'⟩ := hres 0 (by omega)
        obtain ⟨r1, r1'⟩ := hres 1 (by omega)
        obtain ⟨r2, r2'⟩ := hres 2 (by omega)
        obtain ⟨r3, r3'⟩ := hres 3 (by omega)
        clear hb hres ha
        go_wp2_with fail
        have hne : w.heap.size + 1 ≠ w.heap.size + 1 + 1 := by omega
        have hle : w.heap.size ≤ w.heap.size + 1 := by omega
        refine bodyPost_ret (v := gridV n0 n1 n2 (some ⟨w.heap.size + 1 + 1, 0, none⟩) j j) (by simp [results, Try.results12, go_sem, r0, r1, r2, r3]) rfl ⟨⟨_, _, rfl, by omega, ?_⟩, ?_⟩
        · exact (((HA.out.setOther hne _).setOther hne _).setOther hne _).setOther hne _
        · exact (((HV.out.1.setCell hle _).setCell hle _).setCell hle _).setCell hle _
  · go_wp2_with fail
    generalize hX : World.drew _ = X
    have hgs : w.heap.size + 1 + 1 + 1 < X.heap.size := by rw [← hX]; simp [hsz]
    have hA : CArr X (w.heap.size + 1 + 1 + 1) L (List.replicate L (0, 0)) := by
      rw [← hX]
      exact (Arr.of_own (base := 0) (by have := World.ownsRow_lit (base := 0) (size := 1) (e := 35) (W.alloc (.cells #[.int .i64 n0, .int .i64 n1, .int .i64 n2, .slice (some ⟨w.heap.size + 1 + 1 + 1, 0, none⟩) L L] 29)) (madeCells #[.complex .f64 0 0] L) L (Nat.zero_le _) (by unfold maxLen; omega) (by simp [madeCells]); rw [toList_madeCells_one] at this; simpa [List.map_replicate, hsz, size_alloc'] using this) : CArr ((W.alloc (.cells #[.int .i64 n0, .int .i64 n1, .int .i64 n2, .slice (some ⟨w.heap.size + 1 + 1 + 1, 0, none⟩) L L] 29)).alloc (.cells (madeCells #[.complex .f64 0 0] L) 35)) (w.heap.size + 1 + 1 + 1) L (List.replicate L (0, 0))).drew
    have hV : WInv w X (w.heap.size + 1 + 1) (w.heap.size + 1 + 1 + 1) n0 n1 n2 L := by
      rw [← hX]
      refine ⟨((HW.out.alloc _).alloc _).drew, ⟨?_, ?_, ?_, ?_⟩, ?_⟩
      · exact ((Bel.refl _).alloc _).cellv (cell_newN _ _ _ 0 _ hsz)
      · exact ((Bel.refl _).alloc _).cellv (cell_newN _ _ _ 1 _ hsz)
      · exact ((Bel.refl _).alloc _).cellv (cell_newN _ _ _ 2 _ hsz)
      · exact ((Bel.refl _).alloc _).cellv (cell_newN _ _ _ 3 _ hsz)
      · intro i hi
        have hb : Bel W ((W.alloc (.cells #[.int .i64 n0, .int .i64 n1, .int .i64 n2, .slice (some ⟨w.heap.size + 1 + 1 + 1, 0, none⟩) L L] 29)).alloc (.cells (madeCells #[.complex .f64 0 0] L) 35)).drew := (((Bel.refl W).alloc _).alloc _).drew
        have hr := HRES.out i hi
        exact ⟨cellD_eq (hb.cellv hr.1), by rw [hb.frozen (World.block_lt_of_cell? _ _ hr.1)]; exact hr.2⟩
    have HA := Lib.hid hA
    have HV := Lib.hid hV
    clear hX hA hV r0 r1 r2 hmk q1 q2 hp1 hp2 HRES
    go_loopw [6] (fun i wr => ∃ j : Nat, j ≤ L ∧ i = .int .i64 j ∧ CArr wr (w.heap.size + 1 + 1 + 1) L (filled (wholeP L (topVs zs m L)) j (0, 0)) ∧ WInv w wr (w.heap.size + 1 + 1) (w.heap.size + 1 + 1 + 1) n0 n1 n2 L) (fun i _ => L - (intOf i).toNat)
    case atStart => exact ⟨0, Nat.zero_le _, rfl, HA.out.ext (by rw [filled_zero, wholeP_length]), HV.out⟩
    case round =>
      clear HA HV
      obtain ⟨j, hj, rfl, ha, hv⟩ := hrel
      have y3 := hv.2.1.2.2.2
      by_cases hlt : j < L
      · have HA := Lib.hid ha
        have HV := Lib.hid hv
        have hlw := wholeP_length L (topVs zs m L)
        have hd := topP_get zs m L j hlt
        have hn1' : ∀ x : Value, WInv w (wr.setCell ⟨w.heap.size + 1 + 1 + 1, j, none⟩ x) (w.heap.size + 1 + 1) (w.heap.size + 1 + 1 + 1) n0 n1 n2 L := fun x => HV.out.store j x (by omega) (by omega) (by omega)
        have hjL : (j : Int) < L := by omega
        have d1 : IntKind.i64.wrap (2 * (j : Int)) = ((2 * j : Nat) : Int) := by rw [IntWalk.i64_in _ (by omega)]; simp
        have d2 : IntKind.i64.wrap (((2 * j : Nat) : Int) + 1) = ((2 * j + 1 : Nat) : Int) := by rw [IntWalk.i64_in _ (by omega)]; simp
        have oc := cellD_eq (ha.cell (i := j) (by rw [filled_length, hlw]; exact hlt) (0, 0))
        have off' := ha.frozen j
        by_cases hjm : 2 * j + 1 < m
        · obtain ⟨rfl, x1, _, _⟩ := HX.out (2 * j) (by omega)
          obtain ⟨_, x2, _, _⟩ := HX.out (2 * j + 1) hjm
          have hta : topAt zs m j = (zs (2 * j), zs (2 * j + 1)) := by unfold topAt; rw [if_pos hjm]
          rw [hta] at hd
          have HD := Lib.hid hd
          have y1 := hv.1.cellv x1
          have y2 := hv.1.cellv x2
          generalize hxx : zs (2 * j) = xx at x1 y1 HD
          generalize hyy : zs (2 * j + 1) = yy at x2 y2 HD
          have HS0 : Hid ((wr.cell? ⟨b, off + 2 * j, none⟩ = some (.int .i16 xx) ∧ wr.cell? ⟨b, off + (2 * j + 1), none⟩ = some (.int .i16 yy) ∧ wr.cell? ⟨w.heap.size + 1 + 1, 3, none⟩ = some (.slice (some ⟨w.heap.size + 1 + 1 + 1, 0, none⟩) L L)) ∧ wr.cell? ⟨w.heap.size + 1 + 1 + 1, j, none⟩ = some (cellD wr ⟨w.heap.size + 1 + 1 + 1, j, none⟩) ∧ wr.frozen? ⟨w.heap.size + 1 + 1 + 1, j, none⟩ = false) := ⟨⟨y1, y2, y3⟩, oc, off'⟩
          have hbl := World.block_lt_of_cell? w _ x1
          have HNE : Hid (b < w.heap.size) := hbl
          have i1 : (0 : Int) ≤ ((2 * j : Nat) : Int) ∧ ((2 * j : Nat) : Int) < m := by omega
          have i2 : (0 : Int) ≤ ((2 * j + 1 : Nat) : Int) ∧ ((2 * j + 1 : Nat) : Int) < m := by omega
          obtain ⟨i1a, i1b⟩ := i1
          obtain ⟨i2a, i2b⟩ := i2
          generalize hu : 2 * j = u at *
          generalize hu1 : u + 1 = u1 at *
          clear ha hv hlw hd hta x1 x2 y1 y2 oc off' hxx hyy hbl hjm
          go_wp2_with fail
          clear y3
          go_region_held3 (fun w' => (w'.cell? ⟨b, off + u, none⟩ = some (.int .i16 xx) ∧ w'.cell? ⟨b, off + u1, none⟩ = some (.int .i16 yy) ∧ w'.cell? ⟨w.heap.size + 1 + 1, 3, none⟩ = some (.slice (some ⟨w.heap.size + 1 + 1 + 1, 0, none⟩) L L)) ∧ w'.cell? ⟨w.heap.size + 1 + 1 + 1, j, none⟩ = some (cellD w' ⟨w.heap.size + 1 + 1 + 1, j, none⟩) ∧ w'.frozen? ⟨w.heap.size + 1 + 1 + 1, j, none⟩ = false) (first | exact HS0.out | exact s5_keep HS0.out (by show b ≠ _; have := HNE.out; omega) (by show b ≠ _; have := HNE.out; omega) (by show (w.heap.size + 1 + 1 : Nat) ≠ (w.heap.size + 1 + 1 + 1 : Nat); omega) _) (fail)
          go_wp2_with fail
          have A1 : CArr (wr.setCell ⟨w.heap.size + 1 + 1 + 1, j, none⟩ (cVal (floatOfInt .f64 xx, floatOfInt .f64 yy))) (w.heap.size + 1 + 1 + 1) L (filled (wholeP L (topVs zs m L)) (j + 1) (0, 0)) :=
            (HA.out.store j (floatOfInt .f64 xx, floatOfInt .f64 yy)).ext (by rw [← HD.out]; exact filled_succ _ j (0, 0))
          have V1 := hn1' (cVal (floatOfInt .f64 xx, floatOfInt .f64 yy))
          go_roundw
          case rel => exact ⟨j + 1, by omega, by go_num, A1.drew, V1.drew⟩
          case measure => simp [intOf]; omega
        · by_cases h0 : 0 < m
          · have hjm0 : j % m < m := Nat.mod_lt _ h0
            obtain ⟨rfl, x1, z1, z2⟩ := HX.out (j % m) hjm0
            have hta : topAt zs m j = ((zs (j % m)).tmod 7, 0) := by unfold topAt; rw [if_neg hjm, if_pos h0]
            rw [hta] at hd
            have HD := Lib.hid hd
            have y1 := hv.1.cellv x1
            have e1 : (j : Int).tmod m = ((j % m : Nat) : Int) := by rw [Int.tmod_eq_emod_of_nonneg (by omega), Int.natCast_emod]
            generalize hxx : zs (j % m) = xx at x1 y1 HD z1 z2
            generalize hu : j % m = u at *
            have hbl := World.block_lt_of_cell? w _ x1
            have HNE : Hid (b < w.heap.size) := hbl
            have HS0 : Hid ((wr.cell? ⟨b, off + u, none⟩ = some (.int .i16 xx) ∧ wr.cell? ⟨w.heap.size + 1 + 1, 3, none⟩ = some (.slice (some ⟨w.heap.size + 1 + 1 + 1, 0, none⟩) L L)) ∧ wr.cell? ⟨w.heap.size + 1 + 1 + 1, j, none⟩ = some (cellD wr ⟨w.heap.size + 1 + 1 + 1, j, none⟩) ∧ wr.frozen? ⟨w.heap.size + 1 + 1 + 1, j, none⟩ = false) := ⟨⟨y1, y3⟩, oc, off'⟩
            have i2b : ¬ (((2 * j + 1 : Nat) : Int) < m) := by omega
            have h0' : (0 : Int) < m := by omega
            have hm0 : ((m : Int) == 0) = false := by simp; omega
            have hm1 : ¬ ((m : Int) = 0) := by omega
            have hm2 : m ≠ 0 := by omega
            have w1 : IntKind.i64.wrap (u : Int) = (u : Int) := IntWalk.i64_in _ (by omega)
            have w2 : IntKind.i64.wrap xx = xx := IntWalk.i64_in _ (by omega)
            have t7 := tmod7 xx
            have w3 : IntKind.i64.wrap (xx.tmod 7) = xx.tmod 7 := IntWalk.i64_in _ (by omega)
            have ua : (0 : Int) ≤ (u : Int) := by omega
            have ub : (u : Int) < m := by omega
            clear t7
            have fz := float_zero
            generalize hu1 : 2 * j + 1 = u1 at *
            generalize hu2 : 2 * j = u2 at *
            clear ha hv hlw hd hta x1 y1 oc off' hxx hbl hjm hu z1 z2
            go_wp2_with fail
            clear y3
            go_region_held3 (fun w' => (w'.cell? ⟨b, off + u, none⟩ = some (.int .i16 xx) ∧ w'.cell? ⟨w.heap.size + 1 + 1, 3, none⟩ = some (.slice (some ⟨w.heap.size + 1 + 1 + 1, 0, none⟩) L L)) ∧ w'.cell? ⟨w.heap.size + 1 + 1 + 1, j, none⟩ = some (cellD w' ⟨w.heap.size + 1 + 1 + 1, j, none⟩) ∧ w'.frozen? ⟨w.heap.size + 1 + 1 + 1, j, none⟩ = false) (first | exact HS0.out | exact s4_keep HS0.out (by show b ≠ _; have := HNE.out; omega) (by show (w.heap.size + 1 + 1 : Nat) ≠ (w.heap.size + 1 + 1 + 1 : Nat); omega) _) (fail)
            go_wp2_with fail
            have A1 : CArr (wr.setCell ⟨w.heap.size + 1 + 1 + 1, j, none⟩ (cVal (floatOfInt .f64 (xx.tmod 7), 0))) (w.heap.size + 1 + 1 + 1) L (filled (wholeP L (topVs zs m L)) (j + 1) (0, 0)) :=
              (HA.out.store j (floatOfInt .f64 (xx.tmod 7), 0)).ext (by
                have e := HD.out
                rw [fz] at e
                rw [← e]; exact filled_succ _ j (0, 0))
            have V1 := hn1' (cVal (floatOfInt .f64 (xx.tmod 7), 0))
            go_roundw
            case rel => exact ⟨j + 1, by omega, by go_num, A1.drew, V1.drew⟩
            case measure => simp [intOf]; omega
          · have hta : topAt zs m j = (0, 0) := by unfold topAt; rw [if_neg hjm, if_neg h0]
            rw [hta] at hd
            have HD : Hid ((wholeP L (topVs zs m L)).getD j (0, 0) = (0, 0)) := by
              unfold Hid; rw [hd]; show (floatOfInt .f64 0, floatOfInt .f64 0) = (0, 0); rw [float_zero]
            have HF : Hid (filled (wholeP L (topVs zs m L)) j (0, 0) = filled (wholeP L (topVs zs m L)) (j + 1) (0, 0)) := by
              unfold Hid
              unfold filled
              refine List.map_congr_left fun i hi => ?_
              by_cases e : i = j
              · subst e; rw [if_neg (by omega), if_pos (by omega), HD.out]
              · by_cases e2 : i < j
                · rw [if_pos e2, if_pos (by omega)]
                · rw [if_neg e2, if_neg (by omega)]
            have i2b : ¬ (((2 * j + 1 : Nat) : Int) < m) := by omega
            have h0' : ¬ ((0 : Int) < m) := by omega
            generalize hu1 : 2 * j + 1 = u1 at *
            generalize hu2 : 2 * j = u2 at *
            clear ha hv hlw hd hta oc off' hjm
            go_wp2
            go_roundw
            case rel => exact ⟨j + 1, by omega, by go_num, HA.out.ext HF.out, HV.out⟩
            case measure => simp [intOf]; omega
      · have : j = L := by omega
        subst this
        have HA : Hid (CArr wr (w.heap.size + 1 + 1 + 1) j (wholeP j (topVs zs m j))) := ha.ext (by have := filled_all (wholeP j (topVs zs m j)) (0, 0); rw [wholeP_length] at this; exact this)
        have HV := Lib.hid hv
        clear y3
        obtain ⟨hb, ⟨y0, y1, y2, y3⟩, hres⟩ := hv
        obtain ⟨r0, r0'⟩ := hres 0 (by omega)
        obtain ⟨r1, r1'⟩ := hres 1 (by omega)
        obtain ⟨r2, r2'⟩ := hres 2 (by omega)
        obtain ⟨r3, r3'⟩ := hres 3 (by omega)
        clear hb hres ha
        go_wp2_with fail
        have hne : w.heap.size + 1 ≠ w.heap.size + 1 + 1 + 1 := by omega
        have hle : w.heap.size ≤ w.heap.size + 1 := by omega
        refine bodyPost_ret (v := gridV n0 n1 n2 (some ⟨w.heap.size + 1 + 1 + 1, 0, none⟩) j j) (by simp [results, Try.results12, go_sem, r0, r1, r2, r3]) rfl ⟨⟨_, _, rfl, by omega, ?_⟩, ?_⟩
        · exact (((HA.out.setOther hne _).setOther hne _).setOther hne _).setOther hne _
        · exact (((HV.out.1.setCell hle _).setCell hle _).setCell hle _).setCell hle _

end Go.Proofs.Ytdeigbbilcjgjaa
