/-
  The walk of fft.box.
-/
import Derived.Test.YtdeigbbilcjgjaaWh
namespace Go.Proofs.Ytdeigbbilcjgjaa
open Go.RowKit
set_option linter.unusedVariables false
set_option linter.unusedSimpArgs false

set_option maxHeartbeats 2000000 in
theorem box_plain (b off cap n0 n1 n2 L : Nat) (xs zs : List C) (w : World) (hs : Sides n0 n1 n2) (hL : n0 * n1 * n2 = L) (hxl : xs.length = L) (hz : boxP (lineP 9 false) n0 n1 n2 xs = some zs)
    (hx : ∀ i, i < L → w.cell? ⟨b, off + i, none⟩ = some (cVal (xs.getD i (0, 0)))) :
    Calls Try.prog 19 #[gridV n0 n1 n2 (some ⟨b, off, none⟩) L cap, .func (.func 20) #[] #[]] w fun e w' =>
      (∃ g c, e = .returned (.tuple #[gridV n0 n1 n2 (some ⟨g, 0, none⟩) L c, .int .i64 0]) ∧ w.heap.size ≤ g ∧ CArr w' g c zs) ∧ Bel w w' := by
  obtain ⟨i0, hi, hz0, hz1, hz2⟩ := info_parts info_c
  obtain ⟨va, ha, hz⟩ := Option.bind_eq_some_iff.1 hz
  obtain ⟨vb, hb, hz⟩ := Option.bind_eq_some_iff.1 hz
  have HA : Hid (alongP (lineP 9 false) n2 1 xs = some va) := ha
  have HB : Hid (alongP (lineP 9 false) n1 n2 va = some vb) := hb
  have HZ : Hid (alongP (lineP 9 false) n0 (n2 * n1) vb = some zs) := hz
  have HS := Lib.hid hs
  have HL : Hid (n0 * n1 * n2 = L) := hL
  have HXL : Hid (xs.length = L) := hxl
  have HX := Lib.hid hx
  have hLs : L ≤ 262144 := by rw [← hL]; exact hs.p
  have HC := Lib.hid (fun w1 => check_ok n0 n1 n2 (some ⟨b, off, none⟩) cap w1 hs)
  rw [hL] at HC
  clear ha hb hz hs hL hxl hx
  go_enter Try.func19, Try.ntmps19
  go_wp2_with fail
  refine (HC.out _).mono ?_
  rintro e w1 ⟨rfl, hb1⟩
  -- the cells of the boxed argument and of the result's variable, in this world and in those behind it
  have hN : ∀ W, Bel w1 W → W.cell? ⟨w.heap.size, 0, none⟩ = some (.int .i64 n0) ∧ W.cell? ⟨w.heap.size, 1, none⟩ = some (.int .i64 n1) ∧ W.cell? ⟨w.heap.size, 2, none⟩ = some (.int .i64 n2) ∧ W.cell? ⟨w.heap.size, 3, none⟩ = some (.slice (some ⟨b, off, none⟩) L cap) := by
    intro W hW
    have h := hb1.trans hW
    refine ⟨h.cellv ?_, h.cellv ?_, h.cellv ?_, h.cellv ?_⟩ <;> exact ((Bel.refl _).alloc _).cellv (cell_new _ _ _ _)
  have hR : ∀ W, Bel w1 W → ∀ i, i < 4 → W.cell? ⟨w.heap.size + 1, i, none⟩ = some (cellD W ⟨w.heap.size + 1, i, none⟩) ∧ W.frozen? ⟨w.heap.size + 1, i, none⟩ = false := by
    intro W hW i hi
    have h := hb1.trans hW
    have hv := cell_new2 w (.cells #[.int .i64 n0, .int .i64 n1, .int .i64 n2, .slice (some ⟨b, off, none⟩) L cap] 29) #[.int .i64 0, .int .i64 0, .int .i64 0, .slice none 0 0] 29 i
    have hf := frozen_new2 w (.cells #[.int .i64 n0, .int .i64 n1, .int .i64 n2, .slice (some ⟨b, off, none⟩) L cap] 29) #[.int .i64 0, .int .i64 0, .int .i64 0, .slice none 0 0] 29 i
    rw [Array.getElem?_eq_getElem (show i < #[Value.int .i64 0, .int .i64 0, .int .i64 0, .slice none 0 0].size from hi)] at hv
    exact ⟨cellD_eq (h.cellv hv), (h.frozen (World.block_lt_of_cell? _ _ hv)).trans hf⟩
  have HN := Lib.hid hN
  have HR := Lib.hid hR
  have n3 := (hN w1 (Bel.refl w1)).2.2.2
  clear hN hR
  have hszc : (Try.prog.info? 35).map (·.size) = some 1 := by rw [hi]; simp [hz1]
  have hbw1 : w.heap.size + 1 < w1.heap.size := by have := hb1.size; simp at this; omega
  have HB1 : Hid (Bel w w1) := ((Bel.refl w).alloc _).alloc _ |>.trans hb1
  have HX1 : Hid (∀ W, Bel w1 W → ∀ i, i < L → W.cell? ⟨b, off + i, none⟩ = some (cVal (xs.getD i (0, 0)))) := fun W hW i hi => (HB1.out.trans hW).cellv (HX.out i hi)
  clear hb1 HX
  go_wp2_with (first | (refine wpList_make_arr _ rfl (.tmp 18) (.tmp 18) 27 rfl 35 i0 cVal (0, 0) 16 Try.underlying27 hi hz0 hz1 hz2 rfl .i64 .i64 _ _ L rfl rfl rfl rfl (by omega) (by omega) ?_; intro w2 hrow hb2; have n3' := (HN.out _ hb2).2.2.2) | (refine wpList_copy_arr rfl (.tmp 20) (.tmp 22) 27 27 rfl 35 Try.underlying27 hszc cVal (fun _ => rfl) (0, 0) L w1.heap.size L _ xs hrow (List.length_replicate ..) HXL.out b off cap rfl rfl (HX1.out _ hb2) w1 hb2 (Nat.le_refl _) ?_; intro w3 hv3 hb3))
  have HV3 := Lib.hid hv3
  have HB3 := Lib.hid hb3
  clear hrow hb2 n3 n3' hv3 hb3 HX1
  go_loopw [8, 9] (fun ap i wr => Bel w1 wr ∧ ((ap = .int .i64 1 ∧ i = .int .i64 2 ∧ CArr wr w1.heap.size L xs) ∨ (ap = .int .i64 n2 ∧ i = .int .i64 1 ∧ CArr wr w1.heap.size L va) ∨ (ap = .int .i64 (n2 * n1 : Nat) ∧ i = .int .i64 0 ∧ CArr wr w1.heap.size L vb) ∨ (i = .int .i64 (-1) ∧ CArr wr w1.heap.size L zs))) (fun _ i _ => (intOf i + 1).toNat)
  case atStart => exact ⟨HB3.out, Or.inl ⟨rfl, rfl, HV3.out⟩⟩
  case round =>
    clear HV3 HB3
    obtain ⟨hbw, h | h | h | h⟩ := hrel
    · obtain ⟨rfl, rfl, hv⟩ := h
      have k2 := (HN.out wr hbw).2.2.1
      have hgl := hv.lt
      have h22 := HS.out.b2
      have HCALL := Lib.hid (fun W (hW : W = wr) => along_plain w1.heap.size L n2 1 (n0 * n1) L xs va w1 W HXL.out HS.out.a2 HS.out.b2 HS.out.c2 (by omega) (by omega) (by rw [← HL.out, Nat.mul_one, Nat.mul_comm]) hLs HA.out (by rw [hW]; exact hv) (by rw [hW]; exact hbw) (Nat.le_refl _))
      clear hv hbw
      go_wp2_with fail
      refine (HCALL.out _ rfl).mono ?_
      rintro e w4 ⟨rfl, hv, hb4⟩
      have k2' := (HN.out w4 hb4).2.2.1
      have HV := Lib.hid hv
      have HBW := Lib.hid hb4
      clear hv hb4 HCALL
      go_wp2_with fail
      go_roundw
      case rel => exact ⟨HBW.out, Or.inr (Or.inl ⟨by go_num, by go_num, HV.out⟩)⟩
      case measure => simp [intOf]
    · obtain ⟨rfl, rfl, hv⟩ := h
      have k2 := (HN.out wr hbw).2.1
      have hgl := hv.lt
      have hal : va.length = L := by rw [alongP_length HA.out, HXL.out]
      have h22 := HS.out.b2
      have HCALL := Lib.hid (fun W (hW : W = wr) => along_plain w1.heap.size L n1 n2 n0 L va vb w1 W hal HS.out.a1 HS.out.b1 HS.out.c1 HS.out.a2 (by omega) (by rw [← HL.out, Nat.mul_assoc, Nat.mul_comm]) hLs HB.out (by rw [hW]; exact hv) (by rw [hW]; exact hbw) (Nat.le_refl _))
      have m2 := mul2_bounds n2 n1 HS.out.b2 HS.out.b1
      have m20 := m2.1
      have m21 := m2.2
      clear hv hbw hal m2
      go_wp2_with fail
      refine (HCALL.out _ rfl).mono ?_
      rintro e w4 ⟨rfl, hv, hb4⟩
      have k2' := (HN.out w4 hb4).2.1
      have HV := Lib.hid hv
      have HBW := Lib.hid hb4
      clear hv hb4 HCALL
      go_wp2_with fail
      go_roundw
      case rel => exact ⟨HBW.out, Or.inr (Or.inr (Or.inl ⟨by rw [Int.natCast_mul], by go_num, HV.out⟩))⟩
      case measure => simp [intOf]
    · obtain ⟨rfl, rfl, hv⟩ := h
      have k2 := (HN.out wr hbw).1
      have hgl := hv.lt
      have hal : vb.length = L := by rw [alongP_length HB.out, alongP_length HA.out, HXL.out]
      have hp2 : n2 * n1 ≤ 192 * 192 := Nat.mul_le_mul HS.out.b2 HS.out.b1
      have hp1 : 0 < n2 * n1 := Nat.mul_pos HS.out.a2 HS.out.a1
      have HCALL := Lib.hid (fun W (hW : W = wr) => along_plain w1.heap.size L n0 (n2 * n1) 1 L vb zs w1 W hal HS.out.a0 HS.out.b0 HS.out.c0 hp1 (by omega) (by rw [← HL.out, Nat.mul_one, Nat.mul_assoc, Nat.mul_comm n1 n2]) hLs HZ.out (by rw [hW]; exact hv) (by rw [hW]; exact hbw) (Nat.le_refl _))
      have m3 := mul3_bounds n2 n1 n0 (by have := HS.out.p; rw [Nat.mul_comm n2 n1, Nat.mul_assoc, Nat.mul_comm n2 n0, ← Nat.mul_assoc, Nat.mul_comm n1 n0]; exact this)
      have m30 := m3.1
      have m31 := m3.2
      generalize hap : n2 * n1 = ap at HCALL
      have HAP : Hid (n2 * n1 = ap) := hap
      have m30' : (0 : Int) ≤ (ap : Int) * n0 := by rw [← hap, Int.natCast_mul]; exact m30
      have m31' : (ap : Int) * n0 ≤ 262144 := by rw [← hap, Int.natCast_mul]; exact m31
      clear hv hbw hal hap m3 m30 m31 hp1 hp2
      go_wp2_with fail
      refine (HCALL.out _ rfl).mono ?_
      rintro e w4 ⟨rfl, hv, hb4⟩
      have k2' := (HN.out w4 hb4).1
      have HV := Lib.hid hv
      have HBW := Lib.hid hb4
      clear hv hb4 HCALL
      go_wp2_with fail
      go_roundw
      case rel => exact ⟨HBW.out, Or.inr (Or.inr (Or.inr ⟨by go_num, HV.out⟩))⟩
      case measure => simp [intOf]
    · obtain ⟨rfl, hv⟩ := h
      have hN := HN.out wr hbw
      have hR0 := HR.out wr hbw 0 (by omega)
      have hR1 := HR.out wr hbw 1 (by omega)
      have hR2 := HR.out wr hbw 2 (by omega)
      have hR3 := HR.out wr hbw 3 (by omega)
      have HV := Lib.hid hv
      have HBW := Lib.hid hbw
      clear hv hbw
      obtain ⟨k0, k1, k2, k3⟩ := hN
      obtain ⟨r0, r0'⟩ := hR0
      obtain ⟨r1, r1'⟩ := hR1
      obtain ⟨r2, r2'⟩ := hR2
      obtain ⟨r3, r3'⟩ := hR3
      go_wp2_with fail
      have hne : w.heap.size + 1 ≠ w1.heap.size := by omega
      refine bodyPost_ret (v := .tuple #[gridV n0 n1 n2 (some ⟨w1.heap.size, 0, none⟩) L L, .int .i64 0]) (by simp [results, Try.results19, go_sem, r0, r1, r2, r3]) rfl ⟨⟨_, _, rfl, by omega, ?_⟩, ?_⟩
      · exact (((HV.out.setOther hne _).setOther hne _).setOther hne _).setOther hne _
      · have hle : w.heap.size ≤ w.heap.size + 1 := by omega
        exact ((((HB1.out.trans HBW.out).setCell hle _).setCell hle _).setCell hle _).setCell hle _

theorem Box_any (b off cap n0 n1 n2 L : Nat) (xs zs : List C) (w : World) (hs : Sides n0 n1 n2) (hL : n0 * n1 * n2 = L) (hxl : xs.length = L) (hz : boxP (lineP 9 false) n0 n1 n2 xs = some zs)
    (hx : ∀ i, i < L → w.cell? ⟨b, off + i, none⟩ = some (cVal (xs.getD i (0, 0)))) :
    Calls Try.prog 7 #[gridV n0 n1 n2 (some ⟨b, off, none⟩) L cap] w fun e w' =>
      (∃ g c, e = .returned (.tuple #[gridV n0 n1 n2 (some ⟨g, 0, none⟩) L c, .int .i64 0]) ∧ w.heap.size ≤ g ∧ CArr w' g c zs) ∧ Bel w w' := by
  have HC := Lib.hid (fun W (hW : Bel w W) => box_plain b off cap n0 n1 n2 L xs zs W hs hL hxl hz (fun i hi => hW.cellv (hx i hi)))
  clear hs hL hxl hz hx
  have hb0 := Bel.refl w
  go_enter Try.func7, Try.ntmps7
  go_wp2_with fail
  refine (HC.out _ (((Bel.refl w).alloc _).alloc _)).mono ?_
  rintro e w1 ⟨⟨g, c, rfl, hg, hv⟩, hb⟩
  obtain ⟨r0, r0'⟩ := slot2 hb 0 (by simp)
  obtain ⟨r1, r1'⟩ := slot2 hb 1 (by simp)
  obtain ⟨r2, r2'⟩ := slot2 hb 2 (by simp)
  obtain ⟨r3, r3'⟩ := slot2 hb 3 (by simp)
  have HG : Hid (w.heap.size + 1 < g) := by simp at hg; unfold Hid; omega
  have HV := Lib.hid hv
  have HB : Hid (Bel w w1) := (((Bel.refl w).alloc _).alloc _).trans hb
  clear hg hv hb hb0
  go_wp2_with fail
  have hne : w.heap.size + 1 ≠ g := by have := HG.out; omega
  refine bodyPost_ret (v := .tuple #[gridV n0 n1 n2 (some ⟨g, 0, none⟩) L c, .int .i64 0]) (by simp [results, Try.results7, go_sem, r0, r1, r2, r3]) rfl ⟨⟨_, _, rfl, by have := HG.out; omega, ?_⟩, ?_⟩
  · exact (((HV.out.setOther hne _).setOther hne _).setOther hne _).setOther hne _
  · have hle : w.heap.size ≤ w.heap.size + 1 := by omega
    exact (((HB.out.setCell hle _).setCell hle _).setCell hle _).setCell hle _
set_option maxHeartbeats 2000000 in
theorem box_undone (b off cap n0 n1 n2 L : Nat) (xs zs : List C) (w : World) (hs : Sides n0 n1 n2) (hL : n0 * n1 * n2 = L) (hxl : xs.length = L) (hz : boxP undoneP n0 n1 n2 xs = some zs)
    (hx : ∀ i, i < L → w.cell? ⟨b, off + i, none⟩ = some (cVal (xs.getD i (0, 0)))) :
    Calls Try.prog 19 #[gridV n0 n1 n2 (some ⟨b, off, none⟩) L cap, .func (.func 21) #[] #[]] w fun e w' =>
      (∃ g c, e = .returned (.tuple #[gridV n0 n1 n2 (some ⟨g, 0, none⟩) L c, .int .i64 0]) ∧ w.heap.size ≤ g ∧ CArr w' g c zs) ∧ Bel w w' := by
  obtain ⟨i0, hi, hz0, hz1, hz2⟩ := info_parts info_c
  obtain ⟨va, ha, hz⟩ := Option.bind_eq_some_iff.1 hz
  obtain ⟨vb, hb, hz⟩ := Option.bind_eq_some_iff.1 hz
  have HA : Hid (alongP undoneP n2 1 xs = some va) := ha
  have HB : Hid (alongP undoneP n1 n2 va = some vb) := hb
  have HZ : Hid (alongP undoneP n0 (n2 * n1) vb = some zs) := hz
  have HS := Lib.hid hs
  have HL : Hid (n0 * n1 * n2 = L) := hL
  have HXL : Hid (xs.length = L) := hxl
  have HX := Lib.hid hx
  have hLs : L ≤ 262144 := by rw [← hL]; exact hs.p
  have HC := Lib.hid (fun w1 => check_ok n0 n1 n2 (some ⟨b, off, none⟩) cap w1 hs)
  rw [hL] at HC
  clear ha hb hz hs hL hxl hx
  go_enter Try.func19, Try.ntmps19
  go_wp2_with fail
  refine (HC.out _).mono ?_
  rintro e w1 ⟨rfl, hb1⟩
  -- the cells of the boxed argument and of the result's variable, in this world and in those behind it
  have hN : ∀ W, Bel w1 W → W.cell? ⟨w.heap.size, 0, none⟩ = some (.int .i64 n0) ∧ W.cell? ⟨w.heap.size, 1, none⟩ = some (.int .i64 n1) ∧ W.cell? ⟨w.heap.size, 2, none⟩ = some (.int .i64 n2) ∧ W.cell? ⟨w.heap.size, 3, none⟩ = some (.slice (some ⟨b, off, none⟩) L cap) := by
    intro W hW
    have h := hb1.trans hW
    refine ⟨h.cellv ?_, h.cellv ?_, h.cellv ?_, h.cellv ?_⟩ <;> exact ((Bel.refl _).alloc _).cellv (cell_new _ _ _ _)
  have hR : ∀ W, Bel w1 W → ∀ i, i < 4 → W.cell? ⟨w.heap.size + 1, i, none⟩ = some (cellD W ⟨w.heap.size + 1, i, none⟩) ∧ W.frozen? ⟨w.heap.size + 1, i, none⟩ = false := by
    intro W hW i hi
    have h := hb1.trans hW
    have hv := cell_new2 w (.cells #[.int .i64 n0, .int .i64 n1, .int .i64 n2, .slice (some ⟨b, off, none⟩) L cap] 29) #[.int .i64 0, .int .i64 0, .int .i64 0, .slice none 0 0] 29 i
    have hf := frozen_new2 w (.cells #[.int .i64 n0, .int .i64 n1, .int .i64 n2, .slice (some ⟨b, off, none⟩) L cap] 29) #[.int .i64 0, .int .i64 0, .int .i64 0, .slice none 0 0] 29 i
    rw [Array.getElem?_eq_getElem (show i < #[Value.int .i64 0, .int .i64 0, .int .i64 0, .slice none 0 0].size from hi)] at hv
    exact ⟨cellD_eq (h.cellv hv), (h.frozen (World.block_lt_of_cell? _ _ hv)).trans hf⟩
  have HN := Lib.hid hN
  have HR := Lib.hid hR
  have n3 := (hN w1 (Bel.refl w1)).2.2.2
  clear hN hR
  have hszc : (Try.prog.info? 35).map (·.size) = some 1 := by rw [hi]; simp [hz1]
  have hbw1 : w.heap.size + 1 < w1.heap.size := by have := hb1.size; simp at this; omega
  have HB1 : Hid (Bel w w1) := ((Bel.refl w).alloc _).alloc _ |>.trans hb1
  have HX1 : Hid (∀ W, Bel w1 W → ∀ i, i < L → W.cell? ⟨b, off + i, none⟩ = some (cVal (xs.getD i (0, 0)))) := fun W hW i hi => (HB1.out.trans hW).cellv (HX.out i hi)
  clear hb1 HX
  go_wp2_with (first | (refine wpList_make_arr _ rfl (.tmp 18) (.tmp 18) 27 rfl 35 i0 cVal (0, 0) 16 Try.underlying27 hi hz0 hz1 hz2 rfl .i64 .i64 _ _ L rfl rfl rfl rfl (by omega) (by omega) ?_; intro w2 hrow hb2; have n3' := (HN.out _ hb2).2.2.2) | (refine wpList_copy_arr rfl (.tmp 20) (.tmp 22) 27 27 rfl 35 Try.underlying27 hszc cVal (fun _ => rfl) (0, 0) L w1.heap.size L _ xs hrow (List.length_replicate ..) HXL.out b off cap rfl rfl (HX1.out _ hb2) w1 hb2 (Nat.le_refl _) ?_; intro w3 hv3 hb3))
  have HV3 := Lib.hid hv3
  have HB3 := Lib.hid hb3
  clear hrow hb2 n3 n3' hv3 hb3 HX1
  go_loopw [8, 9] (fun ap i wr => Bel w1 wr ∧ ((ap = .int .i64 1 ∧ i = .int .i64 2 ∧ CArr wr w1.heap.size L xs) ∨ (ap = .int .i64 n2 ∧ i = .int .i64 1 ∧ CArr wr w1.heap.size L va) ∨ (ap = .int .i64 (n2 * n1 : Nat) ∧ i = .int .i64 0 ∧ CArr wr w1.heap.size L vb) ∨ (i = .int .i64 (-1) ∧ CArr wr w1.heap.size L zs))) (fun _ i _ => (intOf i + 1).toNat)
  case atStart => exact ⟨HB3.out, Or.inl ⟨rfl, rfl, HV3.out⟩⟩
  case round =>
    clear HV3 HB3
    obtain ⟨hbw, h | h | h | h⟩ := hrel
    · obtain ⟨rfl, rfl, hv⟩ := h
      have k2 := (HN.out wr hbw).2.2.1
      have hgl := hv.lt
      have h22 := HS.out.b2
      have HCALL := Lib.hid (fun W (hW : W = wr) => along_undone w1.heap.size L n2 1 (n0 * n1) L xs va w1 W HXL.out HS.out.a2 HS.out.b2 HS.out.c2 (by omega) (by omega) (by rw [← HL.out, Nat.mul_one, Nat.mul_comm]) hLs HA.out (by rw [hW]; exact hv) (by rw [hW]; exact hbw) (Nat.le_refl _))
      clear hv hbw
      go_wp2_with fail
      refine (HCALL.out _ rfl).mono ?_
      rintro e w4 ⟨rfl, hv, hb4⟩
      have k2' := (HN.out w4 hb4).2.2.1
      have HV := Lib.hid hv
      have HBW := Lib.hid hb4
      clear hv hb4 HCALL
      go_wp2_with fail
      go_roundw
      case rel => exact ⟨HBW.out, Or.inr (Or.inl ⟨by go_num, by go_num, HV.out⟩)⟩
      case measure => simp [intOf]
    · obtain ⟨rfl, rfl, hv⟩ := h
      have k2 := (HN.out wr hbw).2.1
      have hgl := hv.lt
      have hal : va.length = L := by rw [alongP_length HA.out, HXL.out]
      have h22 := HS.out.b2
      have HCALL := Lib.hid (fun W (hW : W = wr) => along_undone w1.heap.size L n1 n2 n0 L va vb w1 W hal HS.out.a1 HS.out.b1 HS.out.c1 HS.out.a2 (by omega) (by rw [← HL.out, Nat.mul_assoc, Nat.mul_comm]) hLs HB.out (by rw [hW]; exact hv) (by rw [hW]; exact hbw) (Nat.le_refl _))
      have m2 := mul2_bounds n2 n1 HS.out.b2 HS.out.b1
      have m20 := m2.1
      have m21 := m2.2
      clear hv hbw hal m2
      go_wp2_with fail
      refine (HCALL.out _ rfl).mono ?_
      rintro e w4 ⟨rfl, hv, hb4⟩
      have k2' := (HN.out w4 hb4).2.1
      have HV := Lib.hid hv
      have HBW := Lib.hid hb4
      clear hv hb4 HCALL
      go_wp2_with fail
      go_roundw
      case rel => exact ⟨HBW.out, Or.inr (Or.inr (Or.inl ⟨by rw [Int.natCast_mul], by go_num, HV.out⟩))⟩
      case measure => simp [intOf]
    · obtain ⟨rfl, rfl, hv⟩ := h
      have k2 := (HN.out wr hbw).1
      have hgl := hv.lt
      have hal : vb.length = L := by rw [alongP_length HB.out, alongP_length HA.out, HXL.out]
      have hp2 : n2 * n1 ≤ 192 * 192 := Nat.mul_le_mul HS.out.b2 HS.out.b1
      have hp1 : 0 < n2 * n1 := Nat.mul_pos HS.out.a2 HS.out.a1
      have HCALL := Lib.hid (fun W (hW : W = wr) => along_undone w1.heap.size L n0 (n2 * n1) 1 L vb zs w1 W hal HS.out.a0 HS.out.b0 HS.out.c0 hp1 (by omega) (by rw [← HL.out, Nat.mul_one, Nat.mul_assoc, Nat.mul_comm n1 n2]) hLs HZ.out (by rw [hW]; exact hv) (by rw [hW]; exact hbw) (Nat.le_refl _))
      have m3 := mul3_bounds n2 n1 n0 (by have := HS.out.p; rw [Nat.mul_comm n2 n1, Nat.mul_assoc, Nat.mul_comm n2 n0, ← Nat.mul_assoc, Nat.mul_comm n1 n0]; exact this)
      have m30 := m3.1
      have m31 := m3.2
      generalize hap : n2 * n1 = ap at HCALL
      have HAP : Hid (n2 * n1 = ap) := hap
      have m30' : (0 : Int) ≤ (ap : Int) * n0 := by rw [← hap, Int.natCast_mul]; exact m30
      have m31' : (ap : Int) * n0 ≤ 262144 := by rw [← hap, Int.natCast_mul]; exact m31
      clear hv hbw hal hap m3 m30 m31 hp1 hp2
      go_wp2_with fail
      refine (HCALL.out _ rfl).mono ?_
      rintro e w4 ⟨rfl, hv, hb4⟩
      have k2' := (HN.out w4 hb4).1
      have HV := Lib.hid hv
      have HBW := Lib.hid hb4
      clear hv hb4 HCALL
      go_wp2_with fail
      go_roundw
      case rel => exact ⟨HBW.out, Or.inr (Or.inr (Or.inr ⟨by go_num, HV.out⟩))⟩
      case measure => simp [intOf]
    · obtain ⟨rfl, hv⟩ := h
      have hN := HN.out wr hbw
      have hR0 := HR.out wr hbw 0 (by omega)
      have hR1 := HR.out wr hbw 1 (by omega)
      have hR2 := HR.out wr hbw 2 (by omega)
      have hR3 := HR.out wr hbw 3 (by omega)
      have HV := Lib.hid hv
      have HBW := Lib.hid hbw
      clear hv hbw
      obtain ⟨k0, k1, k2, k3⟩ := hN
      obtain ⟨r0, r0'⟩ := hR0
      obtain ⟨r1, r1'⟩ := hR1
      obtain ⟨r2, r2'⟩ := hR2
      obtain ⟨r3, r3'⟩ := hR3
      go_wp2_with fail
      have hne : w.heap.size + 1 ≠ w1.heap.size := by omega
      refine bodyPost_ret (v := .tuple #[gridV n0 n1 n2 (some ⟨w1.heap.size, 0, none⟩) L L, .int .i64 0]) (by simp [results, Try.results19, go_sem, r0, r1, r2, r3]) rfl ⟨⟨_, _, rfl, by omega, ?_⟩, ?_⟩
      · exact (((HV.out.setOther hne _).setOther hne _).setOther hne _).setOther hne _
      · have hle : w.heap.size ≤ w.heap.size + 1 := by omega
        exact ((((HB1.out.trans HBW.out).setCell hle _).setCell hle _).setCell hle _).setCell hle _

theorem Unbox_any (b off cap n0 n1 n2 L : Nat) (xs zs : List C) (w : World) (hs : Sides n0 n1 n2) (hL : n0 * n1 * n2 = L) (hxl : xs.length = L) (hz : boxP undoneP n0 n1 n2 xs = some zs)
    (hx : ∀ i, i < L → w.cell? ⟨b, off + i, none⟩ = some (cVal (xs.getD i (0, 0)))) :
    Calls Try.prog 8 #[gridV n0 n1 n2 (some ⟨b, off, none⟩) L cap] w fun e w' =>
      (∃ g c, e = .returned (.tuple #[gridV n0 n1 n2 (some ⟨g, 0, none⟩) L c, .int .i64 0]) ∧ w.heap.size ≤ g ∧ CArr w' g c zs) ∧ Bel w w' := by
  have HC := Lib.hid (fun W (hW : Bel w W) => box_undone b off cap n0 n1 n2 L xs zs W hs hL hxl hz (fun i hi => hW.cellv (hx i hi)))
  clear hs hL hxl hz hx
  have hb0 := Bel.refl w
  go_enter Try.func8, Try.ntmps8
  go_wp2_with fail
  refine (HC.out _ (((Bel.refl w).alloc _).alloc _)).mono ?_
  rintro e w1 ⟨⟨g, c, rfl, hg, hv⟩, hb⟩
  obtain ⟨r0, r0'⟩ := slot2 hb 0 (by simp)
  obtain ⟨r1, r1'⟩ := slot2 hb 1 (by simp)
  obtain ⟨r2, r2'⟩ := slot2 hb 2 (by simp)
  obtain ⟨r3, r3'⟩ := slot2 hb 3 (by simp)
  have HG : Hid (w.heap.size + 1 < g) := by simp at hg; unfold Hid; omega
  have HV := Lib.hid hv
  have HB : Hid (Bel w w1) := (((Bel.refl w).alloc _).alloc _).trans hb
  clear hg hv hb hb0
  go_wp2_with fail
  have hne : w.heap.size + 1 ≠ g := by have := HG.out; omega
  refine bodyPost_ret (v := .tuple #[gridV n0 n1 n2 (some ⟨g, 0, none⟩) L c, .int .i64 0]) (by simp [results, Try.results8, go_sem, r0, r1, r2, r3]) rfl ⟨⟨_, _, rfl, by have := HG.out; omega, ?_⟩, ?_⟩
  · exact (((HV.out.setOther hne _).setOther hne _).setOther hne _).setOther hne _
  · have hle : w.heap.size ≤ w.heap.size + 1 := by omega
    exact (((HB.out.setCell hle _).setCell hle _).setCell hle _).setCell hle _

end Go.Proofs.Ytdeigbbilcjgjaa
