/-
  The walk of fft.along.
  The walk of fft.box.
-/
import Derived.Test.YtehiabiahipkhaaGreatC3
namespace Go.Proofs.YtehiabiahipkhaaGreat
open Go.RowKit
set_option linter.unusedVariables false
set_option linter.unusedSimpArgs false

set_option maxHeartbeats 2000000 in
theorem along_undone (g cap n apart m L : Nat) (xs zs : List C) (w0 w : World) (hL : xs.length = L) (hn0 : 1 ≤ n) (hn1 : n ≤ 192) (h192 : 192 % n = 0) (ha0 : 1 ≤ apart) (ha1 : apart ≤ 262144) (hm : L = n * apart * m) (hLs : L ≤ 262144)
    (hz : alongP undoneP n apart xs = some zs) (hv : CArr w g cap xs) (hb0 : Bel w0 w) (hg : w0.heap.size ≤ g) :
    Calls Tryz.prog 89 #[.slice (some ⟨g, 0, none⟩) L cap, .int .i64 n, .int .i64 apart, .func (.func 67) #[] #[]] w fun e w' => e = .returned (.tuple #[]) ∧ CArr w' g cap zs ∧ Bel w0 w' := by
  obtain ⟨i0, hi, hz0, hz1, hz2⟩ := info_parts info_c
  have HZ : Hid (alongN undoneP n apart xs L = some zs) := by unfold alongP at hz; rw [hL] at hz; exact hz
  have HL : Hid (xs.length = L) := hL
  have HM : Hid (L = n * apart * m) := hm
  have H9 : Hid (192 % n = 0) := h192
  have HV : Hid (CArr w g cap xs) := hv
  have hgw : g < w.heap.size := hv.lt
  clear hz hL hm h192 hv
  go_enter Tryz.func89, Tryz.ntmps89
  go_wp2_with (first | (refine wpList_make_arr _ rfl (.tmp 13) (.tmp 13) 67 rfl 72 i0 cVal (0, 0) 16 Tryz.underlying67 hi hz0 hz1 hz2 rfl .i64 .i64 _ _ n rfl rfl rfl rfl (by omega) (by omega) ?_; intro w1 hrow hb1) | fail)
  have HV1 : Hid (CArr w1 g cap xs) := HV.out.bel hb1
  have HB1 : Hid (Bel w0 w1) := hb0.trans hb1
  have HR1 : Hid (CArr w1 w.heap.size n (List.replicate n (0, 0))) := hrow
  clear hrow hb1 HV
  go_loopw [17] (fun i wr => ∃ k : Nat, k ≤ L ∧ i = .int .i64 k ∧ ∃ ys rw0 : List C, alongN undoneP n apart xs k = some ys ∧ CArr wr g cap ys ∧ Hid (rw0.length = n) ∧ CArr wr w.heap.size n rw0 ∧ Bel w0 wr) (fun i _ => L - (intOf i).toNat)
  case atStart => exact ⟨0, Nat.zero_le _, rfl, xs, _, rfl, HV1.out, by simp [Hid], HR1.out, HB1.out⟩
  case round =>
    clear HV1 HB1 HR1
    obtain ⟨k, hk, rfl, ys, rw0, hys, hv, hrl, hrow, hbw⟩ := hrel
    by_cases hlt : k < L
    · have q0 : (0 : Int) ≤ (k : Int) / apart := Int.ediv_nonneg (by omega) (by omega)
      have q1 : (k : Int) / apart ≤ k := Int.ediv_le_self _ (by omega)
      have q2 : (0 : Int) ≤ (k : Int) / apart % n := Int.emod_nonneg _ (by omega)
      have q3 : (k : Int) / apart % n < n := Int.emod_lt_of_pos _ (by omega)
      have HC : Hid (((k / apart % n : Nat) : Int) = (k : Int) / apart % n) := by unfold Hid; rw [Int.natCast_emod, Int.natCast_ediv]
      by_cases hzk : k / apart % n = 0
      · have t1 : ((k : Int) / apart % n != 0) = false := by rw [← HC.out, hzk]; rfl
        obtain ⟨r, hf, hn'⟩ := alongN_take HZ.out hlt hys hzk
        have HY : Hid (alongN undoneP n apart xs (k + 1) = some (putN apart ys k r n)) := hn'
        have HF : Hid (undoneP (rowOf n apart ys k) = some r) := hf
        have HK : Hid (k / apart % n = 0) := hzk
        have HYL : Hid (ys.length = L) := by unfold Hid; rw [alongN_length hys, HL.out]
        have HV := Lib.hid hv
        have HR := Lib.hid hrow
        have HB := Lib.hid hbw
        obtain ⟨wo, rfl⟩ : ∃ wo : World, wo = wr := ⟨_, rfl⟩
        have hgo : w.heap.size < wo.heap.size := hrow.lt
        have hgg : g < wo.heap.size := hv.lt
        clear hys hv hrow hbw hzk HC hf hn'
        go_wp2_with fail
        go_loopw [28] (fun i wr => ∃ j : Nat, j ≤ n ∧ i = .int .i64 j ∧ CArr wr w.heap.size n (mixed rw0 (rowOf n apart ys k) j) ∧ CArr wr g cap ys ∧ Bel w0 wr) (fun i _ => n - (intOf i).toNat)
        case atStart => exact ⟨0, Nat.zero_le _, rfl, HR.out.ext (mixed_zero _ _).symm, HV.out, HB.out⟩
        case round =>
          clear HV HR HB
          obtain ⟨j, hj, rfl, hrow, hv, hbw⟩ := hrel
          by_cases hltj : j < n
          · have hlt3 : k + j * apart < L := by rw [HM.out]; exact along_lt k apart n m j (by omega) (by rw [← HM.out]; omega) HK.out hltj
            have p0 : (0 : Int) ≤ (j : Int) * apart := by rw [← Int.natCast_mul]; omega
            have p1 : (j : Int) * apart ≤ 262144 := by rw [← Int.natCast_mul]; omega
            have p2 : (k : Int) + (j : Int) * apart < L := by rw [← Int.natCast_mul]; omega
            have p3 : ((k : Int) + (j : Int) * apart).toNat = k + j * apart := by rw [← Int.natCast_mul]; omega
            have hc1 := hv.cell (i := k + j * apart) (by rw [HYL.out]; exact hlt3) (0, 0)
            have hc2 := cellD_eq (hrow.cell (i := j) (by rw [mixed_length, hrl.out]; exact hltj) (0, 0))
            have hf2 := hrow.frozen j
            have HV := Lib.hid hv
            have HR := Lib.hid hrow
            have HB := Lib.hid hbw
            have HG : Hid ((rowOf n apart ys k).getD j (0, 0) = ys.getD (k + j * apart) (0, 0)) := rowOf_get _ _ _ _ _ hltj
            generalize hx : ys.getD (k + j * apart) (0, 0) = x at hc1 HG
            clear hv hrow hbw hx
            go_wp2
            go_roundw
            case rel => exact ⟨j + 1, by omega, by go_num, (HR.out.store j x).ext (by rw [← HG.out]; exact mixed_succ _ _ j), HV.out.setOther (by show w.heap.size ≠ g; omega) _, HB.out.setCell (by show w0.heap.size ≤ w.heap.size; omega) _⟩
            case measure => simp [intOf]; omega
          · have : j = n := by omega
            subst this
            have HR : Hid (CArr wr w.heap.size j (rowOf j apart ys k)) := hrow.ext (by rw [← hrl.out]; exact mixed_all _ _ (by rw [rowOf_length, hrl.out]))
            have HV := Lib.hid hv
            have HB := Lib.hid hbw
            have HCALL := Lib.hid (fun w1 (h : w1 = wr) => undone_any w.heap.size 0 j j (rowOf j apart ys k) r w1 (rowOf_length _ _ _ _) H9.out hn1 HF.out (by rw [h]; intro i hi; rw [Nat.zero_add]; exact HR.out.cell (by rw [rowOf_length]; exact hi) _))
            clear hrow hv hbw
            go_wp2_with fail
            refine (HCALL.out _ rfl).mono ?_
            rintro e w2 ⟨⟨gr, cr, rfl, hlr, hgr, har⟩, hb2⟩
            have HV2 : Hid (CArr w2 g cap ys) := HV.out.bel hb2
            have HR2 : Hid (CArr w2 w.heap.size j (rowOf j apart ys k)) := HR.out.bel hb2
            have HB2 : Hid (Bel w0 w2) := HB.out.trans hb2
            have HA2 : Hid (CArr w2 gr cr r) := har
            have hwr : w.heap.size < wr.heap.size := HR.out.lt
            have hgwr : g < wr.heap.size := HV.out.lt
            clear har hb2 HV HR HB HCALL
            go_wp2_with fail
            go_loopw [47] (fun i wr => ∃ q : Nat, q ≤ j ∧ i = .int .i64 q ∧ CArr wr g cap (putN apart ys k r q) ∧ CArr wr gr cr r ∧ CArr wr w.heap.size j (rowOf j apart ys k) ∧ Bel w0 wr) (fun i _ => j - (intOf i).toNat)
            case atStart => exact ⟨0, Nat.zero_le _, rfl, HV2.out, HA2.out, HR2.out, HB2.out⟩
            case round =>
              clear HV2 HA2 HR2 HB2
              obtain ⟨q, hq, rfl, hv, har, hrow, hbw⟩ := hrel
              by_cases hltq : q < j
              · have hlt3 : k + q * apart < L := by rw [HM.out]; exact along_lt k apart j m q (by omega) (by rw [← HM.out]; omega) HK.out hltq
                have p0 : (0 : Int) ≤ (q : Int) * apart := by rw [← Int.natCast_mul]; omega
                have p1 : (q : Int) * apart ≤ 262144 := by rw [← Int.natCast_mul]; omega
                have p2 : (k : Int) + (q : Int) * apart < L := by rw [← Int.natCast_mul]; omega
                have p3 : ((k : Int) + (q : Int) * apart).toNat = k + q * apart := by rw [← Int.natCast_mul]; omega
                have hc1 := har.cell (i := q) (by rw [hlr.out]; exact hltq) (0, 0)
                have hc2 := cellD_eq (hv.cell (i := k + q * apart) (by rw [putN_length, HYL.out]; exact hlt3) (0, 0))
                have hf2 := hv.frozen (k + q * apart)
                have HV := Lib.hid hv
                have HA := Lib.hid har
                have HR := Lib.hid hrow
                have HB := Lib.hid hbw
                generalize hx : r.getD q (0, 0) = x at hc1
                have HX : Hid (r.getD q (0, 0) = x) := hx
                clear hv har hrow hbw hx
                go_wp2
                go_roundw
                case rel => exact ⟨q + 1, by omega, by go_num, (HV.out.store (k + q * apart) x).ext (by rw [← HX.out]; rfl), HA.out.setOther (by show g ≠ gr; omega) _, HR.out.setOther (by show g ≠ w.heap.size; omega) _, HB.out.setCell hg _⟩
                case measure => simp [intOf]; omega
              · have : q = j := by omega
                subst this
                have HV := Lib.hid hv
                have HR := Lib.hid hrow
                have HB := Lib.hid hbw
                clear hv har hrow hbw
                go_wp2
                go_roundw
                case rel => exact ⟨k + 1, by omega, by go_num, _, rowOf q apart ys k, HY.out, HV.out, rowOf_length _ _ _ _, HR.out, HB.out⟩
                case measure => simp [intOf]; omega
      · have t1 : ((k : Int) / apart % n != 0) = true := by
          rw [← HC.out]; exact bne_iff_ne.2 (fun h => hzk (Int.natCast_eq_zero.1 h))
        have HY : Hid (alongN undoneP n apart xs (k + 1) = some ys) := alongN_skip hys hzk
        have HV := Lib.hid hv
        have HR := Lib.hid hrow
        have HB := Lib.hid hbw
        clear hys hv hrow hbw hzk HC
        go_wp2
        go_roundw
        case rel => exact ⟨k + 1, by omega, by go_num, ys, rw0, HY.out, HV.out, hrl, HR.out, HB.out⟩
        case measure => simp [intOf]; omega
    · have : k = L := by omega
      subst this
      have e : ys = zs := by have := HZ.out; rw [hys] at this; exact Option.some.inj this
      subst e
      have HV := Lib.hid hv
      have HB := Lib.hid hbw
      clear hys hv hrow hbw
      go_wp2
      go_end0
      exact ⟨rfl, HV.out, HB.out⟩

end Go.Proofs.YtehiabiahipkhaaGreat

namespace Go.Proofs.YtehiabiahipkhaaGreat
open Go.RowKit
set_option linter.unusedVariables false
set_option linter.unusedSimpArgs false

set_option maxHeartbeats 2000000 in
theorem box_undone (b off cap n0 n1 n2 L : Nat) (xs zs : List C) (w : World) (hs : Sides n0 n1 n2) (hL : n0 * n1 * n2 = L) (hxl : xs.length = L) (hz : boxP undoneP n0 n1 n2 xs = some zs)
    (hx : ∀ i, i < L → w.cell? ⟨b, off + i, none⟩ = some (cVal (xs.getD i (0, 0)))) :
    Calls Tryz.prog 66 #[gridV n0 n1 n2 (some ⟨b, off, none⟩) L cap, .func (.func 67) #[] #[]] w fun e w' =>
      (∃ g c, e = .returned (.tuple #[gridV n0 n1 n2 (some ⟨g, 0, none⟩) L c, .int .i64 0]) ∧ w.heap.size ≤ g ∧ CArr w' g c zs) ∧ Bel w w' := by
  obtain ⟨i0, hi, hz0, hz1, hz2⟩ := info_parts info_c
  obtain ⟨va, ha, hz⟩ := Option.bind_eq_some_iff.1 hz
  obtain ⟨vb, hb, hz⟩ := Option.bind_eq_some_iff.1 hz
  have HA : Hid (alongP undoneP n2 1 xs = some va) := ha
  have HB : Hid (alongP undoneP n1 n2 va = some vb) := hb
  have HZ : Hid (alongP undoneP n0 (n2 * n1) vb = some zs) := hz
  have HS := Lib.hid hs
  have HL : Hid (n0 * n1 * n2 = L) := hL
  have HXL : Hid (xs.length = L) := hxl
  have HX := Lib.hid hx
  have hLs : L ≤ 262144 := by rw [← hL]; exact hs.p
  have HC := Lib.hid (fun w1 => check_ok n0 n1 n2 (some ⟨b, off, none⟩) cap w1 hs)
  rw [hL] at HC
  clear ha hb hz hs hL hxl hx
  go_enter Tryz.func66, Tryz.ntmps66
  go_wp2_with fail
  refine (HC.out _).mono ?_
  rintro e w1 ⟨rfl, hb1⟩
  -- the cells of the boxed argument and of the result's variable, in this world and in those behind it
  have hN : ∀ W, Bel w1 W → W.cell? ⟨w.heap.size, 0, none⟩ = some (.int .i64 n0) ∧ W.cell? ⟨w.heap.size, 1, none⟩ = some (.int .i64 n1) ∧ W.cell? ⟨w.heap.size, 2, none⟩ = some (.int .i64 n2) ∧ W.cell? ⟨w.heap.size, 3, none⟩ = some (.slice (some ⟨b, off, none⟩) L cap) := by
    intro W hW
    have h := hb1.trans hW
    refine ⟨h.cellv ?_, h.cellv ?_, h.cellv ?_, h.cellv ?_⟩ <;> exact ((Bel.refl _).alloc _).cellv (cell_new _ _ _ _)
  have hR : ∀ W, Bel w1 W → ∀ i, i < 4 → W.cell? ⟨w.heap.size + 1, i, none⟩ = some (cellD W ⟨w.heap.size + 1, i, none⟩) ∧ W.frozen? ⟨w.heap.size + 1, i, none⟩ = false := by
    intro W hW i hi
    have h := hb1.trans hW
    have hv := cell_new2 w (.cells #[.int .i64 n0, .int .i64 n1, .int .i64 n2, .slice (some ⟨b, off, none⟩) L cap] 69) #[.int .i64 0, .int .i64 0, .int .i64 0, .slice none 0 0] 69 i
    have hf := frozen_new2 w (.cells #[.int .i64 n0, .int .i64 n1, .int .i64 n2, .slice (some ⟨b, off, none⟩) L cap] 69) #[.int .i64 0, .int .i64 0, .int .i64 0, .slice none 0 0] 69 i
    rw [Array.getElem?_eq_getElem (show i < #[Value.int .i64 0, .int .i64 0, .int .i64 0, .slice none 0 0].size from hi)] at hv
    exact ⟨cellD_eq (h.cellv hv), (h.frozen (World.block_lt_of_cell? _ _ hv)).trans hf⟩
  have HN := Lib.hid hN
  have HR := Lib.hid hR
  have n3 := (hN w1 (Bel.refl w1)).2.2.2
  clear hN hR
  have hszc : (Tryz.prog.info? 72).map (·.size) = some 1 := by rw [hi]; simp [hz1]
  have hbw1 : w.heap.size + 1 < w1.heap.size := by have := hb1.size; simp at this; omega
  have HB1 : Hid (Bel w w1) := ((Bel.refl w).alloc _).alloc _ |>.trans hb1
  have HX1 : Hid (∀ W, Bel w1 W → ∀ i, i < L → W.cell? ⟨b, off + i, none⟩ = some (cVal (xs.getD i (0, 0)))) := fun W hW i hi => (HB1.out.trans hW).cellv (HX.out i hi)
  clear hb1 HX
  go_wp2_with (first | (refine wpList_make_arr _ rfl (.tmp 18) (.tmp 18) 67 rfl 72 i0 cVal (0, 0) 16 Tryz.underlying67 hi hz0 hz1 hz2 rfl .i64 .i64 _ _ L rfl rfl rfl rfl (by omega) (by omega) ?_; intro w2 hrow hb2; have n3' := (HN.out _ hb2).2.2.2) | (refine wpList_copy_arr rfl (.tmp 20) (.tmp 22) 67 67 rfl 72 Tryz.underlying67 hszc cVal (fun _ => rfl) (0, 0) L w1.heap.size L _ xs hrow (List.length_replicate ..) HXL.out b off cap rfl rfl (HX1.out _ hb2) w1 hb2 (Nat.le_refl _) ?_; intro w3 hv3 hb3))
  have HV3 := Lib.hid hv3
  have HB3 := Lib.hid hb3
  clear hrow hb2 n3 n3' hv3 hb3 HX1
  go_loopw [8, 9] (fun ap i wr => Bel w1 wr ∧ ((ap = .int .i64 1 ∧ i = .int .i64 2 ∧ CArr wr w1.heap.size L xs) ∨ (ap = .int .i64 n2 ∧ i = .int .i64 1 ∧ CArr wr w1.heap.size L va) ∨ (ap = .int .i64 (n2 * n1 : Nat) ∧ i = .int .i64 0 ∧ CArr wr w1.heap.size L vb) ∨ (i = .int .i64 (-1) ∧ CArr wr w1.heap.size L zs))) (fun _ i _ => (intOf i + 1).toNat)
  case atStart => exact ⟨HB3.out, Or.inl ⟨rfl, rfl, HV3.out⟩⟩
  case round =>
    clear HV3 HB3
    obtain ⟨hbw, h | h | h | h⟩ := hrel
    · obtain ⟨rfl, rfl, hv⟩ := h
      have k2 := (HN.out wr hbw).2.2.1
      have hgl := hv.lt
      have h22 := HS.out.b2
      have HCALL := Lib.hid (fun W (hW : W = wr) => along_undone w1.heap.size L n2 1 (n0 * n1) L xs va w1 W HXL.out HS.out.a2 HS.out.b2 HS.out.c2 (by omega) (by omega) (by rw [← HL.out, Nat.mul_one, Nat.mul_comm]) hLs HA.out (by rw [hW]; exact hv) (by rw [hW]; exact hbw) (Nat.le_refl _))
      clear hv hbw
      go_wp2_with fail
      refine (HCALL.out _ rfl).mono ?_
      rintro e w4 ⟨rfl, hv, hb4⟩
      have k2' := (HN.out w4 hb4).2.2.1
      have HV := Lib.hid hv
      have HBW := Lib.hid hb4
      clear hv hb4 HCALL
      go_wp2_with fail
      go_roundw
      case rel => exact ⟨HBW.out, Or.inr (Or.inl ⟨by go_num, by go_num, HV.out⟩)⟩
      case measure => simp [intOf]
    · obtain ⟨rfl, rfl, hv⟩ := h
      have k2 := (HN.out wr hbw).2.1
      have hgl := hv.lt
      have hal : va.length = L := by rw [alongP_length HA.out, HXL.out]
      have h22 := HS.out.b2
      have HCALL := Lib.hid (fun W (hW : W = wr) => along_undone w1.heap.size L n1 n2 n0 L va vb w1 W hal HS.out.a1 HS.out.b1 HS.out.c1 HS.out.a2 (by omega) (by rw [← HL.out, Nat.mul_assoc, Nat.mul_comm]) hLs HB.out (by rw [hW]; exact hv) (by rw [hW]; exact hbw) (Nat.le_refl _))
      have m2 := mul2_bounds n2 n1 HS.out.b2 HS.out.b1
      have m20 := m2.1
      have m21 := m2.2
      clear hv hbw hal m2
      go_wp2_with fail
      refine (HCALL.out _ rfl).mono ?_
      rintro e w4 ⟨rfl, hv, hb4⟩
      have k2' := (HN.out w4 hb4).2.1
      have HV := Lib.hid hv
      have HBW := Lib.hid hb4
      clear hv hb4 HCALL
      go_wp2_with fail
      go_roundw
      case rel => exact ⟨HBW.out, Or.inr (Or.inr (Or.inl ⟨by rw [Int.natCast_mul], by go_num, HV.out⟩))⟩
      case measure => simp [intOf]
    · obtain ⟨rfl, rfl, hv⟩ := h
      have k2 := (HN.out wr hbw).1
      have hgl := hv.lt
      have hal : vb.length = L := by rw [alongP_length HB.out, alongP_length HA.out, HXL.out]
      have hp2 : n2 * n1 ≤ 192 * 192 := Nat.mul_le_mul HS.out.b2 HS.out.b1
      have hp1 : 0 < n2 * n1 := Nat.mul_pos HS.out.a2 HS.out.a1
      have HCALL := Lib.hid (fun W (hW : W = wr) => along_undone w1.heap.size L n0 (n2 * n1) 1 L vb zs w1 W hal HS.out.a0 HS.out.b0 HS.out.c0 hp1 (by omega) (by rw [← HL.out, Nat.mul_one, Nat.mul_assoc, Nat.mul_comm n1 n2]) hLs HZ.out (by rw [hW]; exact hv) (by rw [hW]; exact hbw) (Nat.le_refl _))
      have m3 := mul3_bounds n2 n1 n0 (by have := HS.out.p; rw [Nat.mul_comm n2 n1, Nat.mul_assoc, Nat.mul_comm n2 n0, ← Nat.mul_assoc, Nat.mul_comm n1 n0]; exact this)
      have m30 := m3.1
      have m31 := m3.2
      generalize hap : n2 * n1 = ap at HCALL
      have HAP : Hid (n2 * n1 = ap) := hap
      have m30' : (0 : Int) ≤ (ap : Int) * n0 := by rw [← hap, Int.natCast_mul]; exact m30
      have m31' : (ap : Int) * n0 ≤ 262144 := by rw [← hap, Int.natCast_mul]; exact m31
      clear hv hbw hal hap m3 m30 m31 hp1 hp2
      go_wp2_with fail
      refine (HCALL.out _ rfl).mono ?_
      rintro e w4 ⟨rfl, hv, hb4⟩
      have k2' := (HN.out w4 hb4).1
      have HV := Lib.hid hv
      have HBW := Lib.hid hb4
      clear hv hb4 HCALL
      go_wp2_with fail
      go_roundw
      case rel => exact ⟨HBW.out, Or.inr (Or.inr (Or.inr ⟨by go_num, HV.out⟩))⟩
      case measure => simp [intOf]
    · obtain ⟨rfl, hv⟩ := h
      have hN := HN.out wr hbw
      have hR0 := HR.out wr hbw 0 (by omega)
      have hR1 := HR.out wr hbw 1 (by omega)
      have hR2 := HR.out wr hbw 2 (by omega)
      have hR3 := HR.out wr hbw 3 (by omega)
      have HV := Lib.hid hv
      have HBW := Lib.hid hbw
      clear hv hbw
      obtain ⟨k0, k1, k2, k3⟩ := hN
      obtain ⟨r0, r0'⟩ := hR0
      obtain ⟨r1, r1'⟩ := hR1
      obtain ⟨r2, r2'⟩ := hR2
      obtain ⟨r3, r3'⟩ := hR3
      go_wp2_with fail
      have hne : w.heap.size + 1 ≠ w1.heap.size := by omega
      refine bodyPost_ret (v := .tuple #[gridV n0 n1 n2 (some ⟨w1.heap.size, 0, none⟩) L L, .int .i64 0]) (by simp [results, Tryz.results66, go_sem, r0, r1, r2, r3]) rfl ⟨⟨_, _, rfl, by omega, ?_⟩, ?_⟩
      · exact (((HV.out.setOther hne _).setOther hne _).setOther hne _).setOther hne _
      · have hle : w.heap.size ≤ w.heap.size + 1 := by omega
        exact ((((HB1.out.trans HBW.out).setCell hle _).setCell hle _).setCell hle _).setCell hle _

theorem Unbox_any (b off cap n0 n1 n2 L : Nat) (xs zs : List C) (w : World) (hs : Sides n0 n1 n2) (hL : n0 * n1 * n2 = L) (hxl : xs.length = L) (hz : boxP undoneP n0 n1 n2 xs = some zs)
    (hx : ∀ i, i < L → w.cell? ⟨b, off + i, none⟩ = some (cVal (xs.getD i (0, 0)))) :
    Calls Tryz.prog 47 #[gridV n0 n1 n2 (some ⟨b, off, none⟩) L cap] w fun e w' =>
      (∃ g c, e = .returned (.tuple #[gridV n0 n1 n2 (some ⟨g, 0, none⟩) L c, .int .i64 0]) ∧ w.heap.size ≤ g ∧ CArr w' g c zs) ∧ Bel w w' := by
  have HC := Lib.hid (fun W (hW : Bel w W) => box_undone b off cap n0 n1 n2 L xs zs W hs hL hxl hz (fun i hi => hW.cellv (hx i hi)))
  clear hs hL hxl hz hx
  have hb0 := Bel.refl w
  go_enter Tryz.func47, Tryz.ntmps47
  go_wp2_with fail
  refine (HC.out _ (((Bel.refl w).alloc _).alloc _)).mono ?_
  rintro e w1 ⟨⟨g, c, rfl, hg, hv⟩, hb⟩
  obtain ⟨r0, r0'⟩ := slot2 hb 0 (by simp)
  obtain ⟨r1, r1'⟩ := slot2 hb 1 (by simp)
  obtain ⟨r2, r2'⟩ := slot2 hb 2 (by simp)
  obtain ⟨r3, r3'⟩ := slot2 hb 3 (by simp)
  have HG : Hid (w.heap.size + 1 < g) := by simp at hg; unfold Hid; omega
  have HV := Lib.hid hv
  have HB : Hid (Bel w w1) := (((Bel.refl w).alloc _).alloc _).trans hb
  clear hg hv hb hb0
  go_wp2_with fail
  have hne : w.heap.size + 1 ≠ g := by have := HG.out; omega
  refine bodyPost_ret (v := .tuple #[gridV n0 n1 n2 (some ⟨g, 0, none⟩) L c, .int .i64 0]) (by simp [results, Tryz.results47, go_sem, r0, r1, r2, r3]) rfl ⟨⟨_, _, rfl, by have := HG.out; omega, ?_⟩, ?_⟩
  · exact (((HV.out.setOther hne _).setOther hne _).setOther hne _).setOther hne _
  · have hle : w.heap.size ≤ w.heap.size + 1 := by omega
    exact (((HB.out.setCell hle _).setCell hle _).setCell hle _).setCell hle _

end Go.Proofs.YtehiabiahipkhaaGreat
