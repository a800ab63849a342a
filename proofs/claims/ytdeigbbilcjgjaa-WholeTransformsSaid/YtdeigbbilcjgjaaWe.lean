/-
  The walk of fft.line at every count of numbers that divides 192.
-/
import Derived.Test.YtdeigbbilcjgjaaWd
import Derived.BigRegion
namespace Go.Proofs.Ytdeigbbilcjgjaa
open Go.RowKit
set_option linter.unusedVariables false
set_option linter.unusedSimpArgs false

set_option maxHeartbeats 2000000 in
theorem line_there (f : Nat) : ∀ (b off n cap : Nat) (xs r : List C) (w : World), xs.length = n → 192 % n = 0 → n ≤ 192 → lineP f false xs = some r →
    (∀ i, i < n → w.cell? ⟨b, off + i, none⟩ = some (cVal (xs.getD i (0, 0)))) →
    Calls Try.prog 34 #[.slice (some ⟨b, off, none⟩) n cap, .func (.func 24) #[] #[]] w fun e w' => RetArr 35 cVal n r w e w' ∧ Bel w w' := by
  induction f with
  | zero => intro b off n cap xs r w _ _ _ h; simp [lineP] at h
  | succ f ih =>
    intro b off n cap xs r w hn h192 hlen hr hx
    unfold lineP at hr
    split at hr
    · rename_i hodd
      subst hn
      exact line_odd_there b off cap xs r w hodd h192 hlen hr hx
    · rename_i hodd
      rw [hn] at hr hodd
      obtain ⟨i0, hi, hz0, hz1, hz2⟩ := info_parts info_c
      simp only [Option.bind_eq_some_iff, Option.some.injEq] at hr
      obtain ⟨e, he, o, ho, lo, hlo, hi', hhi, hr⟩ := hr
      have ho1 : ((n : Int) % 2 == 1) = false := by simp; omega
      have hn0 : 0 < n := by
        rcases Nat.eq_zero_or_pos n with h | h
        · subst h; simp at h192
        · exact h
      obtain ⟨h, hh⟩ : ∃ h, h = n / 2 := ⟨_, rfl⟩
      have hh2 : n = 2 * h := by omega
      rw [← hh] at he ho hlo hhi
      have h192h : 192 % h = 0 := by
        have := Nat.div_add_mod 192 n
        have h2 : 192 = h * (2 * (192 / n)) := by rw [← Nat.mul_assoc, Nat.mul_comm h 2, ← hh2]; omega
        rw [h2]; exact Nat.mul_mod_right _ _
      have hle : h ≤ 96 := by omega
      have hge : 0 < h := by omega
      have hlt2 : n ≤ 2 * h := by omega
      have hlt3 : 2 * h ≤ n := by omega
      have HN : Hid (xs.length = n) := hn
      have HE : Hid (lineP f false (partN xs 0 h) = some e) := he
      have HO : Hid (lineP f false (partN xs 1 h) = some o) := ho
      have HL : Hid (collect (bfLo false n e o) h = some lo) := hlo
      have HI : Hid (collect (bfHi false n e o) h = some hi') := hhi
      have HR : Hid (lo ++ hi' = r) := hr
      have HX : Hid (∀ i, i < n → w.cell? ⟨b, off + i, none⟩ = some (cVal (xs.getD i (0, 0)))) := hx
      have H9 : Hid (192 % n = 0) := h192
      have H9h : Hid (192 % h = 0) := h192h
      have IH := Lib.hid ih
      have HH : Hid (h = n / 2) := hh
      have HH2 : Hid (n = 2 * h) := hh2
      clear hn he ho hlo hhi hr hx h192 h192h ih hh hh2 hodd
      go_enter Try.func34, Try.ntmps34
      go_wp2_with (first | (refine wpList_make_arr _ rfl (.tmp 16) (.tmp 16) 27 rfl 35 i0 cVal (0, 0) 16 Try.underlying27 hi hz0 hz1 hz2 rfl .i64 .i64 _ _ n rfl rfl rfl rfl (by omega) (by omega) ?_; intro w1 hout hb1) | fail)
      have HOUT : Hid (CArr w1 w.heap.size n (List.replicate n (0, 0))) := hout
      clear hout
      have hp := fun w2 (hb : Bel w w2) => parted_even b off cap h xs w2 hge (by rw [HN.out]; omega) (by rw [HN.out]; exact HH2.out) (fun i hi => hb.cellv (HX.out i (by rw [← HN.out]; exact hi)))
      rw [HN.out] at hp
      refine (hp _ hb1).mono ?_
      rintro e1 w2 ⟨⟨g1, c1, rfl, hl1, hg1, ha1⟩, hb2⟩
      clear hp
      go_wp2_with fail
      refine (IH.out g1 0 h c1 _ e w2 hl1.out H9h.out (by omega) HE.out (fun i hi => by rw [Nat.zero_add]; exact ha1.cell (by rw [hl1.out]; exact hi) _)).mono ?_
      rintro e1 w3 ⟨⟨g2, c2, rfl, hl2, hg2, ha2⟩, hb3⟩
      go_wp2_with fail
      have hp := fun w2 (hb : Bel w w2) => parted_odd b off cap h xs w2 hge (by rw [HN.out]; omega) (by rw [HN.out]; exact HH2.out) (fun i hi => hb.cellv (HX.out i (by rw [← HN.out]; exact hi)))
      rw [HN.out] at hp
      refine (hp _ ((hb1.trans hb2).trans hb3)).mono ?_
      rintro e1 w4 ⟨⟨g3, c3, rfl, hl3, hg3, ha3⟩, hb4⟩
      clear hp
      go_wp2_with fail
      refine (IH.out g3 0 h c3 _ o w4 hl3.out H9h.out (by omega) HO.out (fun i hi => by rw [Nat.zero_add]; exact ha3.cell (by rw [hl3.out]; exact hi) _)).mono ?_
      rintro e1 w5 ⟨⟨g4, c4, rfl, hl4, hg4, ha4⟩, hb5⟩
      go_wp2_with fail
      have HEA : CArr w5 g2 c2 e := ((ha2.bel hb4).bel hb5)
      have HOA : CArr w5 g4 c4 o := ha4
      have HUA : CArr w5 w.heap.size n (List.replicate n (0, 0)) := (((HOUT.out.bel hb2).bel hb3).bel hb4).bel hb5
      have hb : Bel w w5 := (((hb1.trans hb2).trans hb3).trans hb4).trans hb5
      have hne2 : w.heap.size < g2 := by have := HOUT.out.lt; have := hb2.size; omega
      have hne4 : w.heap.size < g4 := by have := HOUT.out.lt; have := hb2.size; have := hb3.size; have := hb4.size; omega
      have HLr : Hid (r.length = n) := by
        have h1 := (collect_some HL.out (0, 0)).1
        have h2 := (collect_some HI.out (0, 0)).1
        unfold Hid; rw [← HR.out, List.length_append, h1, h2, HH2.out]; omega
      clear HOUT ha1 ha2 ha3 ha4 hb1 hb2 hb3 hb4 hb5 hg1 hg2 hg3 hg4 HX
      go_loopw [65] (fun i wr => ∃ j : Nat, j ≤ h ∧ i = .int .i64 j ∧ CArr wr w.heap.size n (halves r h j) ∧ CArr wr g2 c2 e ∧ CArr wr g4 c4 o ∧ Bel w wr) (fun i _ => h - (intOf i).toNat)
      case atStart => exact ⟨0, Nat.zero_le _, rfl, HUA.ext (by rw [halves_zero, HLr.out]), HEA, HOA, hb⟩
      case round =>
        clear HEA HOA HUA hb
        obtain ⟨j, hj, rfl, hu, hea, hoa, hbw⟩ := hrel
        by_cases hlt : j < h
        · obtain ⟨wo, rfl⟩ : ∃ wo : World, wo = wr := ⟨_, rfl⟩
          have HU : Hid (CArr wo w.heap.size n (halves r h j)) := hu
          have HEA : Hid (CArr wo g2 c2 e) := hea
          have HOA : Hid (CArr wo g4 c4 o) := hoa
          have HTlo : Hid (bfLo false n e o j = some (lo.getD j (0, 0))) := (collect_some HL.out (0, 0)).2 j hlt
          have HThi : Hid (bfHi false n e o j = some (hi'.getD j (0, 0))) := (collect_some HI.out (0, 0)).2 j hlt
          obtain ⟨t, ht, hadd⟩ := Option.bind_eq_some_iff.1 HTlo.out
          have hsub : cSub (e.getD j (0, 0)) t = some (hi'.getD j (0, 0)) := by
            obtain ⟨t', ht', hs⟩ := Option.bind_eq_some_iff.1 HThi.out
            rw [ht] at ht'; cases ht'; exact hs
          have HMul : Hid (cMul (wy false j n) (o.getD j (0, 0)) = some t) := ht
          have hoc := hoa.cell (i := j) (by rw [hl4.out]; exact hlt) (0, 0)
          have HOC : Hid (wo.cell? ⟨g4, j, none⟩ = some (cVal (o.getD j (0, 0)))) := hoc
          have hec := hea.cell (i := j) (by rw [hl2.out]; exact hlt) (0, 0)
          have HEC : Hid (wo.cell? ⟨g2, j, none⟩ = some (cVal (e.getD j (0, 0)))) := hec
          have hb0 : Bel wo wo.drew := (Bel.refl wo).drew
          have HADD : Hid (cAdd (e.getD j (0, 0)) t = some (lo.getD j (0, 0))) := hadd
          have HSUB : Hid (cSub (e.getD j (0, 0)) t = some (hi'.getD j (0, 0))) := hsub
          clear ht hadd hsub hoc hec hu hea hoa HTlo HThi
          generalize hxo : o.getD j (0, 0) = xo at HMul HOC
          have HXO : Hid (o.getD j (0, 0) = xo) := hxo
          generalize hxe : e.getD j (0, 0) = xe at HEC HADD HSUB
          have HXE : Hid (e.getD j (0, 0) = xe) := hxe
          generalize hxl : lo.getD j (0, 0) = xl at HADD
          have HXL : Hid (lo.getD j (0, 0) = xl) := hxl
          generalize hxh : hi'.getD j (0, 0) = xh at HSUB
          have HXH : Hid (hi'.getD j (0, 0) = xh) := hxh
          clear hxo hxe hxl hxh
          go_wp2_with fail
          go_region_held3 (fun w' => w'.cell? ⟨g4, j, none⟩ = some (cVal xo)) (first | exact Bel.cellv (by assumption) HOC.out) (first | (go_at_call 24; refine (callsFrom (there_any _ n (by omega) (by omega) (by omega) (by omega) H9.out _) (by assumption)).mono ?_; rintro e w' ⟨rfl, hb⟩) | (go_at_call 23; refine (mul_any _ _ _ _ HMul.out).mono ?_; rintro e w' ⟨rfl, rfl⟩))
          go_wp2_with fail
          have HS : Hid (S5 ⟨g2, j, none⟩ ⟨w.heap.size, j, none⟩ ⟨w.heap.size, j + n / 2, none⟩ (cVal xe) w') := by
            have hu := HU.out.bel hb
            have c1 := hu.cell (i := j) (by rw [halves_length, HLr.out]; omega) (0, 0)
            have c2 := hu.cell (i := j + n / 2) (by rw [halves_length, HLr.out]; omega) (0, 0)
            exact ⟨hb.cellv HEC.out, ⟨cellD_eq c1, hu.frozen _⟩, cellD_eq c2, hu.frozen _⟩
          have o1 := fun t w => run_complex_sum (P := Try.prog) w .add (Or.inl rfl) t .f64 _ _ _ _ _ _ HADD.out
          have o2 := fun t w => run_complex_sum (P := Try.prog) w .sub (Or.inr rfl) t .f64 _ _ _ _ _ _ HSUB.out
          have hb1 : Bel w' w'.drew := (Bel.refl w').drew
          have q1 : (n : Int).tdiv 2 = (n : Int) / 2 := Int.tdiv_eq_ediv_of_nonneg (by omega)
          have q2 : IntKind.i64.wrap ((n : Int) / 2) = (n : Int) / 2 := IntWalk.i64_in _ (by omega)
          have q3 : IntKind.i64.wrap ((j : Int) + (n : Int) / 2) = (j : Int) + (n : Int) / 2 := IntWalk.i64_in _ (by omega)
          have q4 : (0 : Int) ≤ (j : Int) + (n : Int) / 2 := by omega
          have q5 : (j : Int) + (n : Int) / 2 < n := by omega
          have q6 : ((j : Int) + (n : Int) / 2).toNat = j + n / 2 := by omega
          have q7 : (j : Int) < n := by omega
          have q8 : j < n := by omega
          go_region_held3 (fun w' => w'.cell? ⟨g2, j, none⟩ = some (cVal xe) ∧ (w'.cell? ⟨w.heap.size, j, none⟩ = some (cellD w' ⟨w.heap.size, j, none⟩) ∧ w'.frozen? ⟨w.heap.size, j, none⟩ = false) ∧ w'.cell? ⟨w.heap.size, j + n / 2, none⟩ = some (cellD w' ⟨w.heap.size, j + n / 2, none⟩) ∧ w'.frozen? ⟨w.heap.size, j + n / 2, none⟩ = false) (first | exact S5.bel HS.out (by assumption) | exact S5.store (by assumption) (by first | exact Or.inl rfl | exact Or.inr rfl) (by show g2 ≠ w.heap.size; omega) (by show g2 ≠ w.heap.size; omega) _) (fail)
          go_wp2_with fail
          have hll := (collect_some HL.out (0, 0)).1
          have e1 : r.getD j (0, 0) = xl := by
            rw [← HXL.out, ← HR.out, List.getD_eq_getElem?_getD, List.getD_eq_getElem?_getD, List.getElem?_append_left (by omega)]
          have e2 : r.getD (j + h) (0, 0) = xh := by
            rw [← HXH.out, ← HR.out, List.getD_eq_getElem?_getD, List.getD_eq_getElem?_getD, List.getElem?_append_right (by omega), show j + h - lo.length = j by omega]
          have A1 : CArr w' w.heap.size n (halves r h j) := HU.out.bel hb
          have A2 := (A1.store j xl).store (j + n / 2) xh
          have A3 := A2.ext (ys := halves r h (j + 1)) (by rw [← e1, ← e2, ← HH.out]; exact halves_succ r h j hlt)
          have B1 := ((HEA.out.bel hb).setOther (p := ⟨w.heap.size, j, none⟩) (by show w.heap.size ≠ g2; omega) (cVal xl)).setOther (p := ⟨w.heap.size, j + n / 2, none⟩) (by show w.heap.size ≠ g2; omega) (cVal xh)
          have B2 := ((HOA.out.bel hb).setOther (p := ⟨w.heap.size, j, none⟩) (by show w.heap.size ≠ g4; omega) (cVal xl)).setOther (p := ⟨w.heap.size, j + n / 2, none⟩) (by show w.heap.size ≠ g4; omega) (cVal xh)
          have C1 := ((hbw.trans hb).setCell (p := ⟨w.heap.size, j, none⟩) (Nat.le_refl _) (cVal xl)).setCell (p := ⟨w.heap.size, j + n / 2, none⟩) (Nat.le_refl _) (cVal xh)
          go_roundw
          case rel => exact ⟨j + 1, by omega, by go_num, A3.drew, B1.drew, B2.drew, C1.drew⟩
          case measure => simp [intOf]; omega
        · have : j = h := by omega
          subst this
          have HA : Hid (CArr wr w.heap.size n r) := hu.ext (halves_all r j (by rw [HLr.out, HH2.out]))
          have HB := Lib.hid hbw
          clear hu hea hoa hbw
          go_wp2
          go_ret
          exact ⟨⟨w.heap.size, n, rfl, HLr.out, Nat.le_refl _, HA.out⟩, HB.out⟩
set_option maxHeartbeats 2000000 in
theorem line_back (f : Nat) : ∀ (b off n cap : Nat) (xs r : List C) (w : World), xs.length = n → 192 % n = 0 → n ≤ 192 → lineP f true xs = some r →
    (∀ i, i < n → w.cell? ⟨b, off + i, none⟩ = some (cVal (xs.getD i (0, 0)))) →
    Calls Try.prog 34 #[.slice (some ⟨b, off, none⟩) n cap, .func (.func 35) #[] #[]] w fun e w' => RetArr 35 cVal n r w e w' ∧ Bel w w' := by
  induction f with
  | zero => intro b off n cap xs r w _ _ _ h; simp [lineP] at h
  | succ f ih =>
    intro b off n cap xs r w hn h192 hlen hr hx
    unfold lineP at hr
    split at hr
    · rename_i hodd
      subst hn
      exact line_odd_back b off cap xs r w hodd h192 hlen hr hx
    · rename_i hodd
      rw [hn] at hr hodd
      obtain ⟨i0, hi, hz0, hz1, hz2⟩ := info_parts info_c
      simp only [Option.bind_eq_some_iff, Option.some.injEq] at hr
      obtain ⟨e, he, o, ho, lo, hlo, hi', hhi, hr⟩ := hr
      have ho1 : ((n : Int) % 2 == 1) = false := by simp; omega
      have hn0 : 0 < n := by
        rcases Nat.eq_zero_or_pos n with h | h
        · subst h; simp at h192
        · exact h
      obtain ⟨h, hh⟩ : ∃ h, h = n / 2 := ⟨_, rfl⟩
      have hh2 : n = 2 * h := by omega
      rw [← hh] at he ho hlo hhi
      have h192h : 192 % h = 0 := by
        have := Nat.div_add_mod 192 n
        have h2 : 192 = h * (2 * (192 / n)) := by rw [← Nat.mul_assoc, Nat.mul_comm h 2, ← hh2]; omega
        rw [h2]; exact Nat.mul_mod_right _ _
      have hle : h ≤ 96 := by omega
      have hge : 0 < h := by omega
      have hlt2 : n ≤ 2 * h := by omega
      have hlt3 : 2 * h ≤ n := by omega
      have HN : Hid (xs.length = n) := hn
      have HE : Hid (lineP f true (partN xs 0 h) = some e) := he
      have HO : Hid (lineP f true (partN xs 1 h) = some o) := ho
      have HL : Hid (collect (bfLo true n e o) h = some lo) := hlo
      have HI : Hid (collect (bfHi true n e o) h = some hi') := hhi
      have HR : Hid (lo ++ hi' = r) := hr
      have HX : Hid (∀ i, i < n → w.cell? ⟨b, off + i, none⟩ = some (cVal (xs.getD i (0, 0)))) := hx
      have H9 : Hid (192 % n = 0) := h192
      have H9h : Hid (192 % h = 0) := h192h
      have IH := Lib.hid ih
      have HH : Hid (h = n / 2) := hh
      have HH2 : Hid (n = 2 * h) := hh2
      clear hn he ho hlo hhi hr hx h192 h192h ih hh hh2 hodd
      go_enter Try.func34, Try.ntmps34
      go_wp2_with (first | (refine wpList_make_arr _ rfl (.tmp 16) (.tmp 16) 27 rfl 35 i0 cVal (0, 0) 16 Try.underlying27 hi hz0 hz1 hz2 rfl .i64 .i64 _ _ n rfl rfl rfl rfl (by omega) (by omega) ?_; intro w1 hout hb1) | fail)
      have HOUT : Hid (CArr w1 w.heap.size n (List.replicate n (0, 0))) := hout
      clear hout
      have hp := fun w2 (hb : Bel w w2) => parted_even b off cap h xs w2 hge (by rw [HN.out]; omega) (by rw [HN.out]; exact HH2.out) (fun i hi => hb.cellv (HX.out i (by rw [← HN.out]; exact hi)))
      rw [HN.out] at hp
      refine (hp _ hb1).mono ?_
      rintro e1 w2 ⟨⟨g1, c1, rfl, hl1, hg1, ha1⟩, hb2⟩
      clear hp
      go_wp2_with fail
      refine (IH.out g1 0 h c1 _ e w2 hl1.out H9h.out (by omega) HE.out (fun i hi => by rw [Nat.zero_add]; exact ha1.cell (by rw [hl1.out]; exact hi) _)).mono ?_
      rintro e1 w3 ⟨⟨g2, c2, rfl, hl2, hg2, ha2⟩, hb3⟩
      go_wp2_with fail
      have hp := fun w2 (hb : Bel w w2) => parted_odd b off cap h xs w2 hge (by rw [HN.out]; omega) (by rw [HN.out]; exact HH2.out) (fun i hi => hb.cellv (HX.out i (by rw [← HN.out]; exact hi)))
      rw [HN.out] at hp
      refine (hp _ ((hb1.trans hb2).trans hb3)).mono ?_
      rintro e1 w4 ⟨⟨g3, c3, rfl, hl3, hg3, ha3⟩, hb4⟩
      clear hp
      go_wp2_with fail
      refine (IH.out g3 0 h c3 _ o w4 hl3.out H9h.out (by omega) HO.out (fun i hi => by rw [Nat.zero_add]; exact ha3.cell (by rw [hl3.out]; exact hi) _)).mono ?_
      rintro e1 w5 ⟨⟨g4, c4, rfl, hl4, hg4, ha4⟩, hb5⟩
      go_wp2_with fail
      have HEA : CArr w5 g2 c2 e := ((ha2.bel hb4).bel hb5)
      have HOA : CArr w5 g4 c4 o := ha4
      have HUA : CArr w5 w.heap.size n (List.replicate n (0, 0)) := (((HOUT.out.bel hb2).bel hb3).bel hb4).bel hb5
      have hb : Bel w w5 := (((hb1.trans hb2).trans hb3).trans hb4).trans hb5
      have hne2 : w.heap.size < g2 := by have := HOUT.out.lt; have := hb2.size; omega
      have hne4 : w.heap.size < g4 := by have := HOUT.out.lt; have := hb2.size; have := hb3.size; have := hb4.size; omega
      have HLr : Hid (r.length = n) := by
        have h1 := (collect_some HL.out (0, 0)).1
        have h2 := (collect_some HI.out (0, 0)).1
        unfold Hid; rw [← HR.out, List.length_append, h1, h2, HH2.out]; omega
      clear HOUT ha1 ha2 ha3 ha4 hb1 hb2 hb3 hb4 hb5 hg1 hg2 hg3 hg4 HX
      go_loopw [65] (fun i wr => ∃ j : Nat, j ≤ h ∧ i = .int .i64 j ∧ CArr wr w.heap.size n (halves r h j) ∧ CArr wr g2 c2 e ∧ CArr wr g4 c4 o ∧ Bel w wr) (fun i _ => h - (intOf i).toNat)
      case atStart => exact ⟨0, Nat.zero_le _, rfl, HUA.ext (by rw [halves_zero, HLr.out]), HEA, HOA, hb⟩
      case round =>
        clear HEA HOA HUA hb
        obtain ⟨j, hj, rfl, hu, hea, hoa, hbw⟩ := hrel
        by_cases hlt : j < h
        · obtain ⟨wo, rfl⟩ : ∃ wo : World, wo = wr := ⟨_, rfl⟩
          have HU : Hid (CArr wo w.heap.size n (halves r h j)) := hu
          have HEA : Hid (CArr wo g2 c2 e) := hea
          have HOA : Hid (CArr wo g4 c4 o) := hoa
          have HTlo : Hid (bfLo true n e o j = some (lo.getD j (0, 0))) := (collect_some HL.out (0, 0)).2 j hlt
          have HThi : Hid (bfHi true n e o j = some (hi'.getD j (0, 0))) := (collect_some HI.out (0, 0)).2 j hlt
          obtain ⟨t, ht, hadd⟩ := Option.bind_eq_some_iff.1 HTlo.out
          have hsub : cSub (e.getD j (0, 0)) t = some (hi'.getD j (0, 0)) := by
            obtain ⟨t', ht', hs⟩ := Option.bind_eq_some_iff.1 HThi.out
            rw [ht] at ht'; cases ht'; exact hs
          have HMul : Hid (cMul (wy true j n) (o.getD j (0, 0)) = some t) := ht
          have hoc := hoa.cell (i := j) (by rw [hl4.out]; exact hlt) (0, 0)
          have HOC : Hid (wo.cell? ⟨g4, j, none⟩ = some (cVal (o.getD j (0, 0)))) := hoc
          have hec := hea.cell (i := j) (by rw [hl2.out]; exact hlt) (0, 0)
          have HEC : Hid (wo.cell? ⟨g2, j, none⟩ = some (cVal (e.getD j (0, 0)))) := hec
          have hb0 : Bel wo wo.drew := (Bel.refl wo).drew
          have HADD : Hid (cAdd (e.getD j (0, 0)) t = some (lo.getD j (0, 0))) := hadd
          have HSUB : Hid (cSub (e.getD j (0, 0)) t = some (hi'.getD j (0, 0))) := hsub
          clear ht hadd hsub hoc hec hu hea hoa HTlo HThi
          generalize hxo : o.getD j (0, 0) = xo at HMul HOC
          have HXO : Hid (o.getD j (0, 0) = xo) := hxo
          generalize hxe : e.getD j (0, 0) = xe at HEC HADD HSUB
          have HXE : Hid (e.getD j (0, 0) = xe) := hxe
          generalize hxl : lo.getD j (0, 0) = xl at HADD
          have HXL : Hid (lo.getD j (0, 0) = xl) := hxl
          generalize hxh : hi'.getD j (0, 0) = xh at HSUB
          have HXH : Hid (hi'.getD j (0, 0) = xh) := hxh
          clear hxo hxe hxl hxh
          go_wp2_with fail
          go_region_held3 (fun w' => w'.cell? ⟨g4, j, none⟩ = some (cVal xo)) (first | exact Bel.cellv (by assumption) HOC.out) (first | (go_at_call 35; refine (callsFrom (back_any _ n (by omega) (by omega) (by omega) (by omega) H9.out _) (by assumption)).mono ?_; rintro e w' ⟨rfl, hb⟩) | (go_at_call 23; refine (mul_any _ _ _ _ HMul.out).mono ?_; rintro e w' ⟨rfl, rfl⟩))
          go_wp2_with fail
          have HS : Hid (S5 ⟨g2, j, none⟩ ⟨w.heap.size, j, none⟩ ⟨w.heap.size, j + n / 2, none⟩ (cVal xe) w') := by
            have hu := HU.out.bel hb
            have c1 := hu.cell (i := j) (by rw [halves_length, HLr.out]; omega) (0, 0)
            have c2 := hu.cell (i := j + n / 2) (by rw [halves_length, HLr.out]; omega) (0, 0)
            exact ⟨hb.cellv HEC.out, ⟨cellD_eq c1, hu.frozen _⟩, cellD_eq c2, hu.frozen _⟩
          have o1 := fun t w => run_complex_sum (P := Try.prog) w .add (Or.inl rfl) t .f64 _ _ _ _ _ _ HADD.out
          have o2 := fun t w => run_complex_sum (P := Try.prog) w .sub (Or.inr rfl) t .f64 _ _ _ _ _ _ HSUB.out
          have hb1 : Bel w' w'.drew := (Bel.refl w').drew
          have q1 : (n : Int).tdiv 2 = (n : Int) / 2 := Int.tdiv_eq_ediv_of_nonneg (by omega)
          have q2 : IntKind.i64.wrap ((n : Int) / 2) = (n : Int) / 2 := IntWalk.i64_in _ (by omega)
          have q3 : IntKind.i64.wrap ((j : Int) + (n : Int) / 2) = (j : Int) + (n : Int) / 2 := IntWalk.i64_in _ (by omega)
          have q4 : (0 : Int) ≤ (j : Int) + (n : Int) / 2 := by omega
          have q5 : (j : Int) + (n : Int) / 2 < n := by omega
          have q6 : ((j : Int) + (n : Int) / 2).toNat = j + n / 2 := by omega
          have q7 : (j : Int) < n := by omega
          have q8 : j < n := by omega
          go_region_held3 (fun w' => w'.cell? ⟨g2, j, none⟩ = some (cVal xe) ∧ (w'.cell? ⟨w.heap.size, j, none⟩ = some (cellD w' ⟨w.heap.size, j, none⟩) ∧ w'.frozen? ⟨w.heap.size, j, none⟩ = false) ∧ w'.cell? ⟨w.heap.size, j + n / 2, none⟩ = some (cellD w' ⟨w.heap.size, j + n / 2, none⟩) ∧ w'.frozen? ⟨w.heap.size, j + n / 2, none⟩ = false) (first | exact S5.bel HS.out (by assumption) | exact S5.store (by assumption) (by first | exact Or.inl rfl | exact Or.inr rfl) (by show g2 ≠ w.heap.size; omega) (by show g2 ≠ w.heap.size; omega) _) (fail)
          go_wp2_with fail
          have hll := (collect_some HL.out (0, 0)).1
          have e1 : r.getD j (0, 0) = xl := by
            rw [← HXL.out, ← HR.out, List.getD_eq_getElem?_getD, List.getD_eq_getElem?_getD, List.getElem?_append_left (by omega)]
          have e2 : r.getD (j + h) (0, 0) = xh := by
            rw [← HXH.out, ← HR.out, List.getD_eq_getElem?_getD, List.getD_eq_getElem?_getD, List.getElem?_append_right (by omega), show j + h - lo.length = j by omega]
          have A1 : CArr w' w.heap.size n (halves r h j) := HU.out.bel hb
          have A2 := (A1.store j xl).store (j + n / 2) xh
          have A3 := A2.ext (ys := halves r h (j + 1)) (by rw [← e1, ← e2, ← HH.out]; exact halves_succ r h j hlt)
          have B1 := ((HEA.out.bel hb).setOther (p := ⟨w.heap.size, j, none⟩) (by show w.heap.size ≠ g2; omega) (cVal xl)).setOther (p := ⟨w.heap.size, j + n / 2, none⟩) (by show w.heap.size ≠ g2; omega) (cVal xh)
          have B2 := ((HOA.out.bel hb).setOther (p := ⟨w.heap.size, j, none⟩) (by show w.heap.size ≠ g4; omega) (cVal xl)).setOther (p := ⟨w.heap.size, j + n / 2, none⟩) (by show w.heap.size ≠ g4; omega) (cVal xh)
          have C1 := ((hbw.trans hb).setCell (p := ⟨w.heap.size, j, none⟩) (Nat.le_refl _) (cVal xl)).setCell (p := ⟨w.heap.size, j + n / 2, none⟩) (Nat.le_refl _) (cVal xh)
          go_roundw
          case rel => exact ⟨j + 1, by omega, by go_num, A3.drew, B1.drew, B2.drew, C1.drew⟩
          case measure => simp [intOf]; omega
        · have : j = h := by omega
          subst this
          have HA : Hid (CArr wr w.heap.size n r) := hu.ext (halves_all r j (by rw [HLr.out, HH2.out]))
          have HB := Lib.hid hbw
          clear hu hea hoa hbw
          go_wp2
          go_ret
          exact ⟨⟨w.heap.size, n, rfl, HLr.out, Nat.le_refl _, HA.out⟩, HB.out⟩

end Go.Proofs.Ytdeigbbilcjgjaa
