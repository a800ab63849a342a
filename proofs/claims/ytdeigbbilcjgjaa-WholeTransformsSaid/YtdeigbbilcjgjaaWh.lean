/-
  The walk of fft.along.
-/
import Derived.Test.YtdeigbbilcjgjaaWg
import Derived.Test.YtdeigbbilcjgjaaAlong
namespace Go.Proofs.Ytdeigbbilcjgjaa
open Go.RowKit
set_option linter.unusedVariables false
set_option linter.unusedSimpArgs false

set_option maxHeartbeats 2000000 in
theorem along_plain (g cap n apart m L : Nat) (xs zs : List C) (w0 w : World) (hL : xs.length = L) (hn0 : 1 ≤ n) (hn1 : n ≤ 192) (h192 : 192 % n = 0) (ha0 : 1 ≤ apart) (ha1 : apart ≤ 262144) (hm : L = n * apart * m) (hLs : L ≤ 262144)
    (hz : alongP (lineP 9 false) n apart xs = some zs) (hv : CArr w g cap xs) (hb0 : Bel w0 w) (hg : w0.heap.size ≤ g) :
    Calls Try.prog 33 #[.slice (some ⟨g, 0, none⟩) L cap, .int .i64 n, .int .i64 apart, .func (.func 20) #[] #[]] w fun e w' => e = .returned (.tuple #[]) ∧ CArr w' g cap zs ∧ Bel w0 w' := by
  obtain ⟨i0, hi, hz0, hz1, hz2⟩ := info_parts info_c
  have HZ : Hid (alongN (lineP 9 false) n apart xs L = some zs) := by unfold alongP at hz; rw [hL] at hz; exact hz
  have HL : Hid (xs.length = L) := hL
  have HM : Hid (L = n * apart * m) := hm
  have H9 : Hid (192 % n = 0) := h192
  have HV : Hid (CArr w g cap xs) := hv
  have hgw : g < w.heap.size := hv.lt
  clear hz hL hm h192 hv
  go_enter Try.func33, Try.ntmps33
  go_wp2_with (first | (refine wpList_make_arr _ rfl (.tmp 13) (.tmp 13) 27 rfl 35 i0 cVal (0, 0) 16 Try.underlying27 hi hz0 hz1 hz2 rfl .i64 .i64 _ _ n rfl rfl rfl rfl (by omega) (by omega) ?_; intro w1 hrow hb1) | fail)
  have HV1 : Hid (CArr w1 g cap xs) := HV.out.bel hb1
  have HB1 : Hid (Bel w0 w1) := hb0.trans hb1
  have HR1 : Hid (CArr w1 w.heap.size n (List.replicate n (0, 0))) := hrow
  clear hrow hb1 HV
  go_loopw [17] (fun i wr => ∃ k : Nat, k ≤ L ∧ i = .int .i64 k ∧ ∃ ys rw0 : List C, alongN (lineP 9 false) n apart xs k = some ys ∧ CArr wr g cap ys ∧ Hid (rw0.length = n) ∧ CArr wr w.heap.size n rw0 ∧ Bel w0 wr) (fun i _ => L - (intOf i).toNat)
  case atStart => exact ⟨0, Nat.zero_le _, rfl, xs, _, rfl, HV1.out, by simp [Hid], HR1.out, HB1.out⟩
  case round =>
    clear HV1 HB1 HR1
    obtain ⟨k, hk, rfl, ys, rw0, hys, hv, hrl, hrow, hbw⟩ := hrel
    by_cases hlt : k < L
    · have q0 : (0 : Int) ≤ (k : Int) / apart := Int.ediv_nonneg (by omega) (by omega)
      have q1 : (k : Int) / apart ≤ k := Int.ediv_le_self _ (by omega)
      have q2 : (0 : Int) ≤ (k : Int) / apart % n := Int.emod_nonneg _ (by omega)
      have q3 : (k : Int) / apart % n < n := Int.emod_lt_of_pos _ (by omega)
      have HC : Hid (((k / apart % n : Nat) : Int) = (k : Int) / apart % n) := by unfold Hid; rw [Int.natCast_emod, Int.natCast_ediv]
      by_cases hzk : k / apart % n = 0
      · have t1 : ((k : Int) / apart % n != 0) = false := by rw [← HC.out, hzk]; rfl
        obtain ⟨r, hf, hn'⟩ := alongN_take HZ.out hlt hys hzk
        have HY : Hid (alongN (lineP 9 false) n apart xs (k + 1) = some (putN apart ys k r n)) := hn'
        have HF : Hid ((lineP 9 false) (rowOf n apart ys k) = some r) := hf
        have HK : Hid (k / apart % n = 0) := hzk
        have HYL : Hid (ys.length = L) := by unfold Hid; rw [alongN_length hys, HL.out]
        have HV := Lib.hid hv
        have HR := Lib.hid hrow
        have HB := Lib.hid hbw
        obtain ⟨wo, rfl⟩ : ∃ wo : World, wo = wr := ⟨_, rfl⟩
        have hgo : w.heap.size < wo.heap.size := hrow.lt
        have hgg : g < wo.heap.size := hv.lt
        clear hys hv hrow hbw hzk HC hf hn'
        go_wp2_with fail
        go_loopw [28] (fun i wr => ∃ j : Nat, j ≤ n ∧ i = .int .i64 j ∧ CArr wr w.heap.size n (mixed rw0 (rowOf n apart ys k) j) ∧ CArr wr g cap ys ∧ Bel w0 wr) (fun i _ => n - (intOf i).toNat)
        case atStart => exact ⟨0, Nat.zero_le _, rfl, HR.out.ext (mixed_zero _ _).symm, HV.out, HB.out⟩
        case round =>
          clear HV HR HB
          obtain ⟨j, hj, rfl, hrow, hv, hbw⟩ := hrel
          by_cases hltj : j < n
          · have hlt3 : k + j * apart < L := by rw [HM.out]; exact along_lt k apart n m j (by omega) (by rw [← HM.out]; omega) HK.out hltj
            have p0 : (0 : Int) ≤ (j : Int) * apart := by rw [← Int.natCast_mul]; omega
            have p1 : (j : Int) * apart ≤ 262144 := by rw [← Int.natCast_mul]; omega
            have p2 : (k : Int) + (j : Int) * apart < L := by rw [← Int.natCast_mul]; omega
            have p3 : ((k : Int) + (j : Int) * apart).toNat = k + j * apart := by rw [← Int.natCast_mul]; omega
            have hc1 := hv.cell (i := k + j * apart) (by rw [HYL.out]; exact hlt3) (0, 0)
            have hc2 := cellD_eq (hrow.cell (i := j) (by rw [mixed_length, hrl.out]; exact hltj) (0, 0))
            have hf2 := hrow.frozen j
            have HV := Lib.hid hv
            have HR := Lib.hid hrow
            have HB := Lib.hid hbw
            have HG : Hid ((rowOf n apart ys k).getD j (0, 0) = ys.getD (k + j * apart) (0, 0)) := rowOf_get _ _ _ _ _ hltj
            generalize hx : ys.getD (k + j * apart) (0, 0) = x at hc1 HG
            clear hv hrow hbw hx
            go_wp2
            go_roundw
            case rel => exact ⟨j + 1, by omega, by go_num, (HR.out.store j x).ext (by rw [← HG.out]; exact mixed_succ _ _ j), HV.out.setOther (by show w.heap.size ≠ g; omega) _, HB.out.setCell (by show w0.heap.size ≤ w.heap.size; omega) _⟩
            case measure => simp [intOf]; omega
          · have : j = n := by omega
            subst this
            have HR : Hid (CArr wr w.heap.size j (rowOf j apart ys k)) := hrow.ext (by rw [← hrl.out]; exact mixed_all _ _ (by rw [rowOf_length, hrl.out]))
            have HV := Lib.hid hv
            have HB := Lib.hid hbw
            have HCALL := Lib.hid (fun w1 (h : w1 = wr) => plain_any w.heap.size 0 j j (rowOf j apart ys k) r w1 (rowOf_length _ _ _ _) H9.out hn1 HF.out (by rw [h]; intro i hi; rw [Nat.zero_add]; exact HR.out.cell (by rw [rowOf_length]; exact hi) _))
            clear hrow hv hbw
            go_wp2_with fail
            refine (HCALL.out _ rfl).mono ?_
            rintro e w2 ⟨⟨gr, cr, rfl, hlr, hgr, har⟩, hb2⟩
            have HV2 : Hid (CArr w2 g cap ys) := HV.out.bel hb2
            have HR2 : Hid (CArr w2 w.heap.size j (rowOf j apart ys k)) := HR.out.bel hb2
            have HB2 : Hid (Bel w0 w2) := HB.out.trans hb2
            have HA2 : Hid (CArr w2 gr cr r) := har
            have hwr : w.heap.size < wr.heap.size := HR.out.lt
            have hgwr : g < wr.heap.size := HV.out.lt
            clear har hb2 HV HR HB HCALL
            go_wp2_with fail
            go_loopw [47] (fun i wr => ∃ q : Nat, q ≤ j ∧ i = .int .i64 q ∧ CArr wr g cap (putN apart ys k r q) ∧ CArr wr gr cr r ∧ CArr wr w.heap.size j (rowOf j apart ys k) ∧ Bel w0 wr) (fun i _ => j - (intOf i).toNat)
            case atStart => exact ⟨0, Nat.zero_le _, rfl, HV2.out, HA2.out, HR2.out, HB2.out⟩
            case round =>
              clear HV2 HA2 HR2 HB2
              obtain ⟨q, hq, rfl, hv, har, hrow, hbw⟩ := hrel
              by_cases hltq : q < j
              · have hlt3 : k + q * apart < L := by rw [HM.out]; exact along_lt k apart j m q (by omega) (by rw [← HM.out]; omega) HK.out hltq
                have p0 : (0 : Int) ≤ (q : Int) * apart := by rw [← Int.natCast_mul]; omega
                have p1 : (q : Int) * apart ≤ 262144 := by rw [← Int.natCast_mul]; omega
                have p2 : (k : Int) + (q : Int) * apart < L := by rw [← Int.natCast_mul]; omega
                have p3 : ((k : Int) + (q : Int) * apart).toNat = k + q * apart := by rw [← Int.natCast_mul]; omega
                have hc1 := har.cell (i := q) (by rw [hlr.out]; exact hltq) (0, 0)
                have hc2 := cellD_eq (hv.cell (i := k + q * apart) (by rw [putN_length, HYL.out]; exact hlt3) (0, 0))
                have hf2 := hv.frozen (k + q * apart)
                have HV := Lib.hid hv
                have HA := Lib.hid har
                have HR := Lib.hid hrow
                have HB := Lib.hid hbw
                generalize hx : r.getD q (0, 0) = x at hc1
                have HX : Hid (r.getD q (0, 0) = x) := hx
                clear hv har hrow hbw hx
                go_wp2
                go_roundw
                case rel => exact ⟨q + 1, by omega, by go_num, (HV.out.store (k + q * apart) x).ext (by rw [← HX.out]; rfl), HA.out.setOther (by show g ≠ gr; omega) _, HR.out.setOther (by show g ≠ w.heap.size; omega) _, HB.out.setCell hg _⟩
                case measure => simp [intOf]; omega
              · have : q = j := by omega
                subst this
                have HV := Lib.hid hv
                have HR := Lib.hid hrow
                have HB := Lib.hid hbw
                clear hv har hrow hbw
                go_wp2
                go_roundw
                case rel => exact ⟨k + 1, by omega, by go_num, _, rowOf q apart ys k, HY.out, HV.out, rowOf_length _ _ _ _, HR.out, HB.out⟩
                case measure => simp [intOf]; omega
      · have t1 : ((k : Int) / apart % n != 0) = true := by
          rw [← HC.out]; exact bne_iff_ne.2 (fun h => hzk (Int.natCast_eq_zero.1 h))
        have HY : Hid (alongN (lineP 9 false) n apart xs (k + 1) = some ys) := alongN_skip hys hzk
        have HV := Lib.hid hv
        have HR := Lib.hid hrow
        have HB := Lib.hid hbw
        clear hys hv hrow hbw hzk HC
        go_wp2
        go_roundw
        case rel => exact ⟨k + 1, by omega, by go_num, ys, rw0, HY.out, HV.out, hrl, HR.out, HB.out⟩
        case measure => simp [intOf]; omega
    · have : k = L := by omega
      subst this
      have e : ys = zs := by have := HZ.out; rw [hys] at this; exact Option.some.inj this
      subst e
      have HV := Lib.hid hv
      have HB := Lib.hid hbw
      clear hys hv hrow hbw
      go_wp2
      go_end0
      exact ⟨rfl, HV.out, HB.out⟩
set_option maxHeartbeats 2000000 in
theorem along_undone (g cap n apart m L : Nat) (xs zs : List C) (w0 w : World) (hL : xs.length = L) (hn0 : 1 ≤ n) (hn1 : n ≤ 192) (h192 : 192 % n = 0) (ha0 : 1 ≤ apart) (ha1 : apart ≤ 262144) (hm : L = n * apart * m) (hLs : L ≤ 262144)
    (hz : alongP undoneP n apart xs = some zs) (hv : CArr w g cap xs) (hb0 : Bel w0 w) (hg : w0.heap.size ≤ g) :
    Calls Try.prog 33 #[.slice (some ⟨g, 0, none⟩) L cap, .int .i64 n, .int .i64 apart, .func (.func 21) #[] #[]] w fun e w' => e = .returned (.tuple #[]) ∧ CArr w' g cap zs ∧ Bel w0 w' := by
  obtain ⟨i0, hi, hz0, hz1, hz2⟩ := info_parts info_c
  have HZ : Hid (alongN undoneP n apart xs L = some zs) := by unfold alongP at hz; rw [hL] at hz; exact hz
  have HL : Hid (xs.length = L) := hL
  have HM : Hid (L = n * apart * m) := hm
  have H9 : Hid (192 % n = 0) := h192
  have HV : Hid (CArr w g cap xs) := hv
  have hgw : g < w.heap.size := hv.lt
  clear hz hL hm h192 hv
  go_enter Try.func33, Try.ntmps33
  go_wp2_with (first | (refine wpList_make_arr _ rfl (.tmp 13) (.tmp 13) 27 rfl 35 i0 cVal (0, 0) 16 Try.underlying27 hi hz0 hz1 hz2 rfl .i64 .i64 _ _ n rfl rfl rfl rfl (by omega) (by omega) ?_; intro w1 hrow hb1) | fail)
  have HV1 : Hid (CArr w1 g cap xs) := HV.out.bel hb1
  have HB1 : Hid (Bel w0 w1) := hb0.trans hb1
  have HR1 : Hid (CArr w1 w.heap.size n (List.replicate n (0, 0))) := hrow
  clear hrow hb1 HV
  go_loopw [17] (fun i wr => ∃ k : Nat, k ≤ L ∧ i = .int .i64 k ∧ ∃ ys rw0 : List C, alongN undoneP n apart xs k = some ys ∧ CArr wr g cap ys ∧ Hid (rw0.length = n) ∧ CArr wr w.heap.size n rw0 ∧ Bel w0 wr) (fun i _ => L - (intOf i).toNat)
  case atStart => exact ⟨0, Nat.zero_le _, rfl, xs, _, rfl, HV1.out, by simp [Hid], HR1.out, HB1.out⟩
  case round =>
    clear HV1 HB1 HR1
    obtain ⟨k, hk, rfl, ys, rw0, hys, hv, hrl, hrow, hbw⟩ := hrel
    by_cases hlt : k < L
    · have q0 : (0 : Int) ≤ (k : Int) / apart := Int.ediv_nonneg (by omega) (by omega)
      have q1 : (k : Int) / apart ≤ k := Int.ediv_le_self _ (by omega)
      have q2 : (0 : Int) ≤ (k : Int) / apart % n := Int.emod_nonneg _ (by omega)
      have q3 : (k : Int) / apart % n < n := Int.emod_lt_of_pos _ (by omega)
      have HC : Hid (((k / apart % n : Nat) : Int) = (k : Int) / apart % n) := by unfold Hid; rw [Int.natCast_emod, Int.natCast_ediv]
      by_cases hzk : k / apart % n = 0
      · have t1 : ((k : Int) / apart % n != 0) = false := by rw [← HC.out, hzk]; rfl
        obtain ⟨r, hf, hn'⟩ := alongN_take HZ.out hlt hys hzk
        have HY : Hid (alongN undoneP n apart xs (k + 1) = some (putN apart ys k r n)) := hn'
        have HF : Hid (undoneP (rowOf n apart ys k) = some r) := hf
        have HK : Hid (k / apart % n = 0) := hzk
        have HYL : Hid (ys.length = L) := by unfold Hid; rw [alongN_length hys, HL.out]
        have HV := Lib.hid hv
        have HR := Lib.hid hrow
        have HB := Lib.hid hbw
        obtain ⟨wo, rfl⟩ : ∃ wo : World, wo = wr := ⟨_, rfl⟩
        have hgo : w.heap.size < wo.heap.size := hrow.lt
        have hgg : g < wo.heap.size := hv.lt
        clear hys hv hrow hbw hzk HC hf hn'
        go_wp2_with fail
        go_loopw [28] (fun i wr => ∃ j : Nat, j ≤ n ∧ i = .int .i64 j ∧ CArr wr w.heap.size n (mixed rw0 (rowOf n apart ys k) j) ∧ CArr wr g cap ys ∧ Bel w0 wr) (fun i _ => n - (intOf i).toNat)
        case atStart => exact ⟨0, Nat.zero_le _, rfl, HR.out.ext (mixed_zero _ _).symm, HV.out, HB.out⟩
        case round =>
          clear HV HR HB
          obtain ⟨j, hj, rfl, hrow, hv, hbw⟩ := hrel
          by_cases hltj : j < n
          · have hlt3 : k + j * apart < L := by rw [HM.out]; exact along_lt k apart n m j (by omega) (by rw [← HM.out]; omega) HK.out hltj
            have p0 : (0 : Int) ≤ (j : Int) * apart := by rw [← Int.natCast_mul]; omega
            have p1 : (j : Int) * apart ≤ 262144 := by rw [← Int.natCast_mul]; omega
            have p2 : (k : Int) + (j : Int) * apart < L := by rw [← Int.natCast_mul]; omega
            have p3 : ((k : Int) + (j : Int) * apart).toNat = k + j * apart := by rw [← Int.natCast_mul]; omega
            have hc1 := hv.cell (i := k + j * apart) (by rw [HYL.out]; exact hlt3) (0, 0)
            have hc2 := cellD_eq (hrow.cell (i := j) (by rw [mixed_length, hrl.out]; exact hltj) (0, 0))
            have hf2 := hrow.frozen j
            have HV := Lib.hid hv
            have HR := Lib.hid hrow
            have HB := Lib.hid hbw
            have HG : Hid ((rowOf n apart ys k).getD j (0, 0) = ys.getD (k + j * apart) (0, 0)) := rowOf_get _ _ _ _ _ hltj
            generalize hx : ys.getD (k + j * apart) (0, 0) = x at hc1 HG
            clear hv hrow hbw hx
            go_wp2
            go_roundw
            case rel => exact ⟨j + 1, by omega, by go_num, (HR.out.store j x).ext (by rw [← HG.out]; exact mixed_succ _ _ j), HV.out.setOther (by show w.heap.size ≠ g; omega) _, HB.out.setCell (by show w0.heap.size ≤ w.heap.size; omega) _⟩
            case measure => simp [intOf]; omega
          · have : j = n := by omega
            subst this
            have HR : Hid (CArr wr w.heap.size j (rowOf j apart ys k)) := hrow.ext (by rw [← hrl.out]; exact mixed_all _ _ (by rw [rowOf_length, hrl.out]))
            have HV := Lib.hid hv
            have HB := Lib.hid hbw
            have HCALL := Lib.hid (fun w1 (h : w1 = wr) => undone_any w.heap.size 0 j j (rowOf j apart ys k) r w1 (rowOf_length _ _ _ _) H9.out hn1 HF.out (by rw [h]; intro i hi; rw [Nat.zero_add]; exact HR.out.cell (by rw [rowOf_length]; exact hi) _))
            clear hrow hv hbw
            go_wp2_with fail
            refine (HCALL.out _ rfl).mono ?_
            rintro e w2 ⟨⟨gr, cr, rfl, hlr, hgr, har⟩, hb2⟩
            have HV2 : Hid (CArr w2 g cap ys) := HV.out.bel hb2
            have HR2 : Hid (CArr w2 w.heap.size j (rowOf j apart ys k)) := HR.out.bel hb2
            have HB2 : Hid (Bel w0 w2) := HB.out.trans hb2
            have HA2 : Hid (CArr w2 gr cr r) := har
            have hwr : w.heap.size < wr.heap.size := HR.out.lt
            have hgwr : g < wr.heap.size := HV.out.lt
            clear har hb2 HV HR HB HCALL
            go_wp2_with fail
            go_loopw [47] (fun i wr => ∃ q : Nat, q ≤ j ∧ i = .int .i64 q ∧ CArr wr g cap (putN apart ys k r q) ∧ CArr wr gr cr r ∧ CArr wr w.heap.size j (rowOf j apart ys k) ∧ Bel w0 wr) (fun i _ => j - (intOf i).toNat)
            case atStart => exact ⟨0, Nat.zero_le _, rfl, HV2.out, HA2.out, HR2.out, HB2.out⟩
            case round =>
              clear HV2 HA2 HR2 HB2
              obtain ⟨q, hq, rfl, hv, har, hrow, hbw⟩ := hrel
              by_cases hltq : q < j
              · have hlt3 : k + q * apart < L := by rw [HM.out]; exact along_lt k apart j m q (by omega) (by rw [← HM.out]; omega) HK.out hltq
                have p0 : (0 : Int) ≤ (q : Int) * apart := by rw [← Int.natCast_mul]; omega
                have p1 : (q : Int) * apart ≤ 262144 := by rw [← Int.natCast_mul]; omega
                have p2 : (k : Int) + (q : Int) * apart < L := by rw [← Int.natCast_mul]; omega
                have p3 : ((k : Int) + (q : Int) * apart).toNat = k + q * apart := by rw [← Int.natCast_mul]; omega
                have hc1 := har.cell (i := q) (by rw [hlr.out]; exact hltq) (0, 0)
                have hc2 := cellD_eq (hv.cell (i := k + q * apart) (by rw [putN_length, HYL.out]; exact hlt3) (0, 0))
                have hf2 := hv.frozen (k + q * apart)
                have HV := Lib.hid hv
                have HA := Lib.hid har
                have HR := Lib.hid hrow
                have HB := Lib.hid hbw
                generalize hx : r.getD q (0, 0) = x at hc1
                have HX : Hid (r.getD q (0, 0) = x) := hx
                clear hv har hrow hbw hx
                go_wp2
                go_roundw
                case rel => exact ⟨q + 1, by omega, by go_num, (HV.out.store (k + q * apart) x).ext (by rw [← HX.out]; rfl), HA.out.setOther (by show g ≠ gr; omega) _, HR.out.setOther (by show g ≠ w.heap.size; omega) _, HB.out.setCell hg _⟩
                case measure => simp [intOf]; omega
              · have : q = j := by omega
                subst this
                have HV := Lib.hid hv
                have HR := Lib.hid hrow
                have HB := Lib.hid hbw
                clear hv har hrow hbw
                go_wp2
                go_roundw
                case rel => exact ⟨k + 1, by omega, by go_num, _, rowOf q apart ys k, HY.out, HV.out, rowOf_length _ _ _ _, HR.out, HB.out⟩
                case measure => simp [intOf]; omega
      · have t1 : ((k : Int) / apart % n != 0) = true := by
          rw [← HC.out]; exact bne_iff_ne.2 (fun h => hzk (Int.natCast_eq_zero.1 h))
        have HY : Hid (alongN undoneP n apart xs (k + 1) = some ys) := alongN_skip hys hzk
        have HV := Lib.hid hv
        have HR := Lib.hid hrow
        have HB := Lib.hid hbw
        clear hys hv hrow hbw hzk HC
        go_wp2
        go_roundw
        case rel => exact ⟨k + 1, by omega, by go_num, ys, rw0, HY.out, HV.out, hrl, HR.out, HB.out⟩
        case measure => simp [intOf]; omega
    · have : k = L := by omega
      subst this
      have e : ys = zs := by have := HZ.out; rw [hys] at this; exact Option.some.inj this
      subst e
      have HV := Lib.hid hv
      have HB := Lib.hid hbw
      clear hys hv hrow hbw
      go_wp2
      go_end0
      exact ⟨rfl, HV.out, HB.out⟩

end Go.Proofs.Ytdeigbbilcjgjaa
