/-
  The walk of fft.line: at an odd count of numbers.
-/
import Derived.Test.YtehiabiahipkhaaGreatC1
import Derived.Deep.RegionHeld3
import Derived.Deep.LoopGhost
namespace Go.Proofs.YtehiabiahipkhaaGreat
open Go.RowKit
set_option linter.unusedVariables false
set_option linter.unusedSimpArgs false

set_option maxHeartbeats 1000000 in
theorem line_odd_there (b off cap : Nat) (xs r : List C) (w : World) (hodd : xs.length % 2 = 1) (h192 : 192 % xs.length = 0) (hlen : xs.length ≤ 192)
    (hr : collect (oddOut false xs) xs.length = some r)
    (hx : ∀ i, i < xs.length → w.cell? ⟨b, off + i, none⟩ = some (cVal (xs.getD i (0, 0)))) :
    Calls Tryz.prog 90 #[.slice (some ⟨b, off, none⟩) xs.length cap, .func (.func 102) #[] #[]] w fun e w' => RetArr 72 cVal xs.length r w e w' ∧ Bel w w' := by
  obtain ⟨i0, hi, hz0, hz1, hz2⟩ := info_parts info_c
  obtain ⟨n, hn⟩ : ∃ n, n = xs.length := ⟨_, rfl⟩
  have HN : Hid (n = xs.length) := hn
  have HO : Hid (n % 2 = 1) := by unfold Hid; omega
  have ho : ((n : Int) % 2 == 1) = true := by simp; omega
  rw [← hn] at hlen h192 hr hx ⊢
  clear hn hodd
  have HR : Hid (collect (oddOut false xs) n = some r) := hr
  have HX : Hid (∀ i, i < n → w.cell? ⟨b, off + i, none⟩ = some (cVal (xs.getD i (0, 0)))) := hx
  have H9 : Hid (192 % n = 0) := h192
  clear hr hx h192
  go_enter Tryz.func90, Tryz.ntmps90
  go_wp2_with (first | (refine wpList_make_arr _ rfl (.tmp 16) (.tmp 16) 67 rfl 72 i0 cVal (0, 0) 16 Tryz.underlying67 hi hz0 hz1 hz2 rfl .i64 .i64 _ _ n rfl rfl rfl rfl (by omega) (by omega) ?_; intro w1 hout hb1) | fail)
  go_loopw [23] (fun i wr => ∃ j : Nat, j ≤ n ∧ i = .int .i64 j ∧ CArr wr w.heap.size n (filled r j (0, 0)) ∧ Bel w wr) (fun i _ => n - (intOf i).toNat)
  case atStart =>
    have hrl := (collect_some HR.out (0, 0)).1
    exact ⟨0, Nat.zero_le _, rfl, by rw [filled_zero, hrl]; exact hout, hb1⟩
  case round =>
    obtain ⟨j, hj, rfl, ho1, hbw⟩ := hrel
    by_cases hlt : j < n
    · have HJ : Hid (oddOut false xs j = some (r.getD j (0, 0))) := (collect_some HR.out (0, 0)).2 j hlt
      obtain ⟨t, ht, hs⟩ := Option.bind_eq_some_iff.1 HJ.out
      obtain ⟨wo, rfl⟩ : ∃ wo : World, wo = wr := ⟨_, rfl⟩
      have HT : Hid (collect (oddTerm false xs j) n = some t) := by rw [HN.out]; exact ht
      have HS : Hid (csumN t n = some (r.getD j (0, 0))) := by rw [HN.out]; exact hs
      clear ht hs HJ
      go_wp2_with (first | (refine wpList_make_arr _ rfl (.tmp 26) (.tmp 26) 67 rfl 72 i0 cVal (0, 0) 16 Tryz.underlying67 hi hz0 hz1 hz2 rfl .i64 .i64 _ _ n rfl rfl rfl rfl (by omega) (by omega) ?_; intro w2 hterms hb2) | fail)
      have htl := (collect_some HT.out (0, 0)).1
      have HTL : Hid (t.length = n) := htl
      clear htl
      have hgl : w.heap.size < wo.heap.size := ho1.lt
      have hgl2 : wo.heap.size < w2.heap.size := hterms.lt
      go_loopw [30] (fun i wr => ∃ k : Nat, k ≤ n ∧ i = .int .i64 k ∧ CArr wr wo.heap.size n (filled t k (0, 0)) ∧ Bel wo wr) (fun i _ => n - (intOf i).toNat)
      case atStart => exact ⟨0, Nat.zero_le _, rfl, by rw [filled_zero, HTL.out]; exact hterms, hb2⟩
      case round =>
        obtain ⟨k, hk, rfl, ht1, hbt⟩ := hrel
        by_cases hltk : k < n
        · have hbww := hbw.trans hbt
          have hcell := hbww.cellv (HX.out k hltk)
          have HM : Hid (cMul (xs.getD k (0, 0)) (wy false (j * k : Nat) n) = some (t.getD k (0, 0))) := by
            have := (collect_some HT.out (0, 0)).2 k hltk
            unfold oddTerm at this
            rw [← HN.out] at this; exact this
          have hout2 := cellD_eq (ht1.cell (i := k) (by rw [filled_length, HTL.out]; exact hltk) (0, 0))
          have hfr := ht1.frozen k
          have HA : Hid (CArr wr wo.heap.size n (filled t k (0, 0))) := ht1
          have hbx : b < wo.heap.size := Nat.lt_of_lt_of_le (World.block_lt_of_cell? _ _ (HX.out k hltk)) hbw.size
          have HE : Hid (b ≠ wo.heap.size) := by unfold Hid; omega
          clear ht1 hbww
          obtain ⟨x, hx⟩ : ∃ x, x = xs.getD k (0, 0) := ⟨_, rfl⟩
          rw [← hx] at hcell HM
          have HXX : Hid (x = xs.getD k (0, 0)) := hx
          clear hx
          have hjk : j * k ≤ n * n := Nat.mul_le_mul hj (by omega)
          have hnn : n * n ≤ 192 * 192 := Nat.mul_le_mul hlen hlen
          have ew : IntKind.i64.wrap ((j : Int) * k) = ((j * k : Nat) : Int) := by
            rw [IntWalk.i64_in _ (by rw [← Int.natCast_mul]; omega)]; simp
          have HS0 : Hid (wr.cell? ⟨b, off + k, none⟩ = some (cVal x) ∧ wr.cell? ⟨wo.heap.size, k, none⟩ = some (cellD wr ⟨wo.heap.size, k, none⟩) ∧ wr.frozen? ⟨wo.heap.size, k, none⟩ = false) := ⟨hcell, hout2, hfr⟩
          have hb0 : Bel wr wr.drew := (Bel.refl wr).drew
          clear hcell hout2 hfr
          go_wp2_with fail
          go_region_held3 (fun w' => w'.cell? ⟨b, off + k, none⟩ = some (cVal x) ∧ w'.cell? ⟨wo.heap.size, k, none⟩ = some (cellD w' ⟨wo.heap.size, k, none⟩) ∧ w'.frozen? ⟨wo.heap.size, k, none⟩ = false) (first | exact s3_bel HS0.out (by assumption) | exact s3_store (s3_bel HS0.out (by assumption)) HE.out _) (first | (go_at_call 102; refine (callsFrom (there_any _ n (by omega) (by omega) (by omega) (by omega) H9.out _) (by assumption)).mono ?_; rintro e w' ⟨rfl, hb⟩) | (go_at_call 98; refine (mul_any _ _ _ _ HM.out).mono ?_; rintro e w' ⟨rfl, rfl⟩))
          go_wp2_with fail
          go_roundw
          case rel =>
            exact ⟨k + 1, by omega, by go_num, ((HA.out.bel hb).store k (t.getD k (0, 0))).ext (filled_succ t k (0, 0)), (hbt.trans hb).setCell (Nat.le_refl _) _⟩
          case measure => simp [intOf]; omega
        · have : k = n := by omega
          subst this
          have HA : Hid (CArr wr wo.heap.size k t) := ht1.ext (by rw [← HTL.out]; exact filled_all t (0, 0))
          have hcells := fun i (hi : i < k) => HA.out.cell (i := i) (by rw [HTL.out]; exact hi) (0, 0)
          have HC : Hid (∀ i, i < k → wr.cell? ⟨wo.heap.size, 0 + i, none⟩ = some (cVal (t.getD i (0, 0)))) := fun i hi => by rw [Nat.zero_add]; exact hcells i hi
          clear hcells ht1
          have HOO : Hid (CArr wr w.heap.size k (filled r j (0, 0))) := ho1.bel hbt
          have hoc := HOO.out.cell (i := j) (by rw [filled_length, (collect_some HR.out (0, 0)).1]; exact hlt) (0, 0)
          have hof := HOO.out.frozen j
          go_wp2_with (first | (go_at_call 99; refine (sum_any _ 0 _ _ _ _ _ (by omega) HS.out HC.out).mono ?_; rintro e w' ⟨rfl, rfl⟩))
          go_roundw
          case rel => exact ⟨j + 1, by omega, by go_num, (HOO.out.store j (r.getD j (0, 0))).ext (filled_succ r j (0, 0)), (hbw.trans hbt).setCell (Nat.le_refl _) _⟩
          case measure => simp [intOf]; omega
    · have : j = n := by omega
      subst this
      have hrl := (collect_some HR.out (0, 0)).1
      have HRL : Hid (r.length = j) := hrl
      have HA : Hid (CArr wr w.heap.size j r) := ho1.ext (by rw [← HRL.out]; exact filled_all r (0, 0))
      clear ho1 hrl
      go_wp2
      go_ret
      exact ⟨⟨w.heap.size, j, rfl, HRL.out, Nat.le_refl _, HA.out⟩, hbw⟩

set_option maxHeartbeats 1000000 in
theorem line_odd_back (b off cap : Nat) (xs r : List C) (w : World) (hodd : xs.length % 2 = 1) (h192 : 192 % xs.length = 0) (hlen : xs.length ≤ 192)
    (hr : collect (oddOut true xs) xs.length = some r)
    (hx : ∀ i, i < xs.length → w.cell? ⟨b, off + i, none⟩ = some (cVal (xs.getD i (0, 0)))) :
    Calls Tryz.prog 90 #[.slice (some ⟨b, off, none⟩) xs.length cap, .func (.func 91) #[] #[]] w fun e w' => RetArr 72 cVal xs.length r w e w' ∧ Bel w w' := by
  obtain ⟨i0, hi, hz0, hz1, hz2⟩ := info_parts info_c
  obtain ⟨n, hn⟩ : ∃ n, n = xs.length := ⟨_, rfl⟩
  have HN : Hid (n = xs.length) := hn
  have HO : Hid (n % 2 = 1) := by unfold Hid; omega
  have ho : ((n : Int) % 2 == 1) = true := by simp; omega
  rw [← hn] at hlen h192 hr hx ⊢
  clear hn hodd
  have HR : Hid (collect (oddOut true xs) n = some r) := hr
  have HX : Hid (∀ i, i < n → w.cell? ⟨b, off + i, none⟩ = some (cVal (xs.getD i (0, 0)))) := hx
  have H9 : Hid (192 % n = 0) := h192
  clear hr hx h192
  go_enter Tryz.func90, Tryz.ntmps90
  go_wp2_with (first | (refine wpList_make_arr _ rfl (.tmp 16) (.tmp 16) 67 rfl 72 i0 cVal (0, 0) 16 Tryz.underlying67 hi hz0 hz1 hz2 rfl .i64 .i64 _ _ n rfl rfl rfl rfl (by omega) (by omega) ?_; intro w1 hout hb1) | fail)
  go_loopw [23] (fun i wr => ∃ j : Nat, j ≤ n ∧ i = .int .i64 j ∧ CArr wr w.heap.size n (filled r j (0, 0)) ∧ Bel w wr) (fun i _ => n - (intOf i).toNat)
  case atStart =>
    have hrl := (collect_some HR.out (0, 0)).1
    exact ⟨0, Nat.zero_le _, rfl, by rw [filled_zero, hrl]; exact hout, hb1⟩
  case round =>
    obtain ⟨j, hj, rfl, ho1, hbw⟩ := hrel
    by_cases hlt : j < n
    · have HJ : Hid (oddOut true xs j = some (r.getD j (0, 0))) := (collect_some HR.out (0, 0)).2 j hlt
      obtain ⟨t, ht, hs⟩ := Option.bind_eq_some_iff.1 HJ.out
      obtain ⟨wo, rfl⟩ : ∃ wo : World, wo = wr := ⟨_, rfl⟩
      have HT : Hid (collect (oddTerm true xs j) n = some t) := by rw [HN.out]; exact ht
      have HS : Hid (csumN t n = some (r.getD j (0, 0))) := by rw [HN.out]; exact hs
      clear ht hs HJ
      go_wp2_with (first | (refine wpList_make_arr _ rfl (.tmp 26) (.tmp 26) 67 rfl 72 i0 cVal (0, 0) 16 Tryz.underlying67 hi hz0 hz1 hz2 rfl .i64 .i64 _ _ n rfl rfl rfl rfl (by omega) (by omega) ?_; intro w2 hterms hb2) | fail)
      have htl := (collect_some HT.out (0, 0)).1
      have HTL : Hid (t.length = n) := htl
      clear htl
      have hgl : w.heap.size < wo.heap.size := ho1.lt
      have hgl2 : wo.heap.size < w2.heap.size := hterms.lt
      go_loopw [30] (fun i wr => ∃ k : Nat, k ≤ n ∧ i = .int .i64 k ∧ CArr wr wo.heap.size n (filled t k (0, 0)) ∧ Bel wo wr) (fun i _ => n - (intOf i).toNat)
      case atStart => exact ⟨0, Nat.zero_le _, rfl, by rw [filled_zero, HTL.out]; exact hterms, hb2⟩
      case round =>
        obtain ⟨k, hk, rfl, ht1, hbt⟩ := hrel
        by_cases hltk : k < n
        · have hbww := hbw.trans hbt
          have hcell := hbww.cellv (HX.out k hltk)
          have HM : Hid (cMul (xs.getD k (0, 0)) (wy true (j * k : Nat) n) = some (t.getD k (0, 0))) := by
            have := (collect_some HT.out (0, 0)).2 k hltk
            unfold oddTerm at this
            rw [← HN.out] at this; exact this
          have hout2 := cellD_eq (ht1.cell (i := k) (by rw [filled_length, HTL.out]; exact hltk) (0, 0))
          have hfr := ht1.frozen k
          have HA : Hid (CArr wr wo.heap.size n (filled t k (0, 0))) := ht1
          have hbx : b < wo.heap.size := Nat.lt_of_lt_of_le (World.block_lt_of_cell? _ _ (HX.out k hltk)) hbw.size
          have HE : Hid (b ≠ wo.heap.size) := by unfold Hid; omega
          clear ht1 hbww
          obtain ⟨x, hx⟩ : ∃ x, x = xs.getD k (0, 0) := ⟨_, rfl⟩
          rw [← hx] at hcell HM
          have HXX : Hid (x = xs.getD k (0, 0)) := hx
          clear hx
          have hjk : j * k ≤ n * n := Nat.mul_le_mul hj (by omega)
          have hnn : n * n ≤ 192 * 192 := Nat.mul_le_mul hlen hlen
          have ew : IntKind.i64.wrap ((j : Int) * k) = ((j * k : Nat) : Int) := by
            rw [IntWalk.i64_in _ (by rw [← Int.natCast_mul]; omega)]; simp
          have HS0 : Hid (wr.cell? ⟨b, off + k, none⟩ = some (cVal x) ∧ wr.cell? ⟨wo.heap.size, k, none⟩ = some (cellD wr ⟨wo.heap.size, k, none⟩) ∧ wr.frozen? ⟨wo.heap.size, k, none⟩ = false) := ⟨hcell, hout2, hfr⟩
          have hb0 : Bel wr wr.drew := (Bel.refl wr).drew
          clear hcell hout2 hfr
          go_wp2_with fail
          go_region_held3 (fun w' => w'.cell? ⟨b, off + k, none⟩ = some (cVal x) ∧ w'.cell? ⟨wo.heap.size, k, none⟩ = some (cellD w' ⟨wo.heap.size, k, none⟩) ∧ w'.frozen? ⟨wo.heap.size, k, none⟩ = false) (first | exact s3_bel HS0.out (by assumption) | exact s3_store (s3_bel HS0.out (by assumption)) HE.out _) (first | (go_at_call 91; refine (callsFrom (back_any _ n (by omega) (by omega) (by omega) (by omega) H9.out _) (by assumption)).mono ?_; rintro e w' ⟨rfl, hb⟩) | (go_at_call 98; refine (mul_any _ _ _ _ HM.out).mono ?_; rintro e w' ⟨rfl, rfl⟩))
          go_wp2_with fail
          go_roundw
          case rel =>
            exact ⟨k + 1, by omega, by go_num, ((HA.out.bel hb).store k (t.getD k (0, 0))).ext (filled_succ t k (0, 0)), (hbt.trans hb).setCell (Nat.le_refl _) _⟩
          case measure => simp [intOf]; omega
        · have : k = n := by omega
          subst this
          have HA : Hid (CArr wr wo.heap.size k t) := ht1.ext (by rw [← HTL.out]; exact filled_all t (0, 0))
          have hcells := fun i (hi : i < k) => HA.out.cell (i := i) (by rw [HTL.out]; exact hi) (0, 0)
          have HC : Hid (∀ i, i < k → wr.cell? ⟨wo.heap.size, 0 + i, none⟩ = some (cVal (t.getD i (0, 0)))) := fun i hi => by rw [Nat.zero_add]; exact hcells i hi
          clear hcells ht1
          have HOO : Hid (CArr wr w.heap.size k (filled r j (0, 0))) := ho1.bel hbt
          have hoc := HOO.out.cell (i := j) (by rw [filled_length, (collect_some HR.out (0, 0)).1]; exact hlt) (0, 0)
          have hof := HOO.out.frozen j
          go_wp2_with (first | (go_at_call 99; refine (sum_any _ 0 _ _ _ _ _ (by omega) HS.out HC.out).mono ?_; rintro e w' ⟨rfl, rfl⟩))
          go_roundw
          case rel => exact ⟨j + 1, by omega, by go_num, (HOO.out.store j (r.getD j (0, 0))).ext (filled_succ r j (0, 0)), (hbw.trans hbt).setCell (Nat.le_refl _) _⟩
          case measure => simp [intOf]; omega
    · have : j = n := by omega
      subst this
      have hrl := (collect_some HR.out (0, 0)).1
      have HRL : Hid (r.length = j) := hrl
      have HA : Hid (CArr wr w.heap.size j r) := ho1.ext (by rw [← HRL.out]; exact filled_all r (0, 0))
      clear ho1 hrl
      go_wp2
      go_ret
      exact ⟨⟨w.heap.size, j, rfl, HRL.out, Nat.le_refl _, HA.out⟩, hbw⟩

end Go.Proofs.YtehiabiahipkhaaGreat
