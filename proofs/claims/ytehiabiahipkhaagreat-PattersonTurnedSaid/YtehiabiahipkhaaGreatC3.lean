/-
  The walk of fft.line at every count of numbers that divides 192.
  The walks of fft.plain, fft.undone, fft.Line, fft.Unline.
  The walks of fft.check, fft.along, fft.box.
  What a transform along an edge makes of the numbers of a grid, as a function.
-/
import Derived.Test.YtehiabiahipkhaaGreatC2
import Derived.BigRegion
import Derived.Test.YtehiabiahipkhaaGreatC1
namespace Go.Proofs.YtehiabiahipkhaaGreat
open Go.RowKit
set_option linter.unusedVariables false
set_option linter.unusedSimpArgs false

set_option maxHeartbeats 2000000 in
theorem line_there (f : Nat) : ∀ (b off n cap : Nat) (xs r : List C) (w : World), xs.length = n → 192 % n = 0 → n ≤ 192 → lineP f false xs = some r →
    (∀ i, i < n → w.cell? ⟨b, off + i, none⟩ = some (cVal (xs.getD i (0, 0)))) →
    Calls Tryz.prog 90 #[.slice (some ⟨b, off, none⟩) n cap, .func (.func 102) #[] #[]] w fun e w' => RetArr 72 cVal n r w e w' ∧ Bel w w' := by
  induction f with
  | zero => intro b off n cap xs r w _ _ _ h; simp [lineP] at h
  | succ f ih =>
    intro b off n cap xs r w hn h192 hlen hr hx
    unfold lineP at hr
    split at hr
    · rename_i hodd
      subst hn
      exact line_odd_there b off cap xs r w hodd h192 hlen hr hx
    · rename_i hodd
      rw [hn] at hr hodd
      obtain ⟨i0, hi, hz0, hz1, hz2⟩ := info_parts info_c
      simp only [Option.bind_eq_some_iff, Option.some.injEq] at hr
      obtain ⟨e, he, o, ho, lo, hlo, hi', hhi, hr⟩ := hr
      have ho1 : ((n : Int) % 2 == 1) = false := by simp; omega
      have hn0 : 0 < n := by
        rcases Nat.eq_zero_or_pos n with h | h
        · subst h; simp at h192
        · exact h
      obtain ⟨h, hh⟩ : ∃ h, h = n / 2 := ⟨_, rfl⟩
      have hh2 : n = 2 * h := by omega
      rw [← hh] at he ho hlo hhi
      have h192h : 192 % h = 0 := by
        have := Nat.div_add_mod 192 n
        have h2 : 192 = h * (2 * (192 / n)) := by rw [← Nat.mul_assoc, Nat.mul_comm h 2, ← hh2]; omega
        rw [h2]; exact Nat.mul_mod_right _ _
      have hle : h ≤ 96 := by omega
      have hge : 0 < h := by omega
      have hlt2 : n ≤ 2 * h := by omega
      have hlt3 : 2 * h ≤ n := by omega
      have HN : Hid (xs.length = n) := hn
      have HE : Hid (lineP f false (partN xs 0 h) = some e) := he
      have HO : Hid (lineP f false (partN xs 1 h) = some o) := ho
      have HL : Hid (collect (bfLo false n e o) h = some lo) := hlo
      have HI : Hid (collect (bfHi false n e o) h = some hi') := hhi
      have HR : Hid (lo ++ hi' = r) := hr
      have HX : Hid (∀ i, i < n → w.cell? ⟨b, off + i, none⟩ = some (cVal (xs.getD i (0, 0)))) := hx
      have H9 : Hid (192 % n = 0) := h192
      have H9h : Hid (192 % h = 0) := h192h
      have IH := Lib.hid ih
      have HH : Hid (h = n / 2) := hh
      have HH2 : Hid (n = 2 * h) := hh2
      clear hn he ho hlo hhi hr hx h192 h192h ih hh hh2 hodd
      go_enter Tryz.func90, Tryz.ntmps90
      go_wp2_with (first | (refine wpList_make_arr _ rfl (.tmp 16) (.tmp 16) 67 rfl 72 i0 cVal (0, 0) 16 Tryz.underlying67 hi hz0 hz1 hz2 rfl .i64 .i64 _ _ n rfl rfl rfl rfl (by omega) (by omega) ?_; intro w1 hout hb1) | fail)
      have HOUT : Hid (CArr w1 w.heap.size n (List.replicate n (0, 0))) := hout
      clear hout
      have hp := fun w2 (hb : Bel w w2) => parted_even b off cap h xs w2 hge (by rw [HN.out]; omega) (by rw [HN.out]; exact HH2.out) (fun i hi => hb.cellv (HX.out i (by rw [← HN.out]; exact hi)))
      rw [HN.out] at hp
      refine (hp _ hb1).mono ?_
      rintro e1 w2 ⟨⟨g1, c1, rfl, hl1, hg1, ha1⟩, hb2⟩
      clear hp
      go_wp2_with fail
      refine (IH.out g1 0 h c1 _ e w2 hl1.out H9h.out (by omega) HE.out (fun i hi => by rw [Nat.zero_add]; exact ha1.cell (by rw [hl1.out]; exact hi) _)).mono ?_
      rintro e1 w3 ⟨⟨g2, c2, rfl, hl2, hg2, ha2⟩, hb3⟩
      go_wp2_with fail
      have hp := fun w2 (hb : Bel w w2) => parted_odd b off cap h xs w2 hge (by rw [HN.out]; omega) (by rw [HN.out]; exact HH2.out) (fun i hi => hb.cellv (HX.out i (by rw [← HN.out]; exact hi)))
      rw [HN.out] at hp
      refine (hp _ ((hb1.trans hb2).trans hb3)).mono ?_
      rintro e1 w4 ⟨⟨g3, c3, rfl, hl3, hg3, ha3⟩, hb4⟩
      clear hp
      go_wp2_with fail
      refine (IH.out g3 0 h c3 _ o w4 hl3.out H9h.out (by omega) HO.out (fun i hi => by rw [Nat.zero_add]; exact ha3.cell (by rw [hl3.out]; exact hi) _)).mono ?_
      rintro e1 w5 ⟨⟨g4, c4, rfl, hl4, hg4, ha4⟩, hb5⟩
      go_wp2_with fail
      have HEA : CArr w5 g2 c2 e := ((ha2.bel hb4).bel hb5)
      have HOA : CArr w5 g4 c4 o := ha4
      have HUA : CArr w5 w.heap.size n (List.replicate n (0, 0)) := (((HOUT.out.bel hb2).bel hb3).bel hb4).bel hb5
      have hb : Bel w w5 := (((hb1.trans hb2).trans hb3).trans hb4).trans hb5
      have hne2 : w.heap.size < g2 := by have := HOUT.out.lt; have := hb2.size; omega
      have hne4 : w.heap.size < g4 := by have := HOUT.out.lt; have := hb2.size; have := hb3.size; have := hb4.size; omega
      have HLr : Hid (r.length = n) := by
        have h1 := (collect_some HL.out (0, 0)).1
        have h2 := (collect_some HI.out (0, 0)).1
        unfold Hid; rw [← HR.out, List.length_append, h1, h2, HH2.out]; omega
      clear HOUT ha1 ha2 ha3 ha4 hb1 hb2 hb3 hb4 hb5 hg1 hg2 hg3 hg4 HX
      go_loopw [65] (fun i wr => ∃ j : Nat, j ≤ h ∧ i = .int .i64 j ∧ CArr wr w.heap.size n (halves r h j) ∧ CArr wr g2 c2 e ∧ CArr wr g4 c4 o ∧ Bel w wr) (fun i _ => h - (intOf i).toNat)
      case atStart => exact ⟨0, Nat.zero_le _, rfl, HUA.ext (by rw [halves_zero, HLr.out]), HEA, HOA, hb⟩
      case round =>
        clear HEA HOA HUA hb
        obtain ⟨j, hj, rfl, hu, hea, hoa, hbw⟩ := hrel
        by_cases hlt : j < h
        · obtain ⟨wo, rfl⟩ : ∃ wo : World, wo = wr := ⟨_, rfl⟩
          have HU : Hid (CArr wo w.heap.size n (halves r h j)) := hu
          have HEA : Hid (CArr wo g2 c2 e) := hea
          have HOA : Hid (CArr wo g4 c4 o) := hoa
          have HTlo : Hid (bfLo false n e o j = some (lo.getD j (0, 0))) := (collect_some HL.out (0, 0)).2 j hlt
          have HThi : Hid (bfHi false n e o j = some (hi'.getD j (0, 0))) := (collect_some HI.out (0, 0)).2 j hlt
          obtain ⟨t, ht, hadd⟩ := Option.bind_eq_some_iff.1 HTlo.out
          have hsub : cSub (e.getD j (0, 0)) t = some (hi'.getD j (0, 0)) := by
            obtain ⟨t', ht', hs⟩ := Option.bind_eq_some_iff.1 HThi.out
            rw [ht] at ht'; cases ht'; exact hs
          have HMul : Hid (cMul (wy false j n) (o.getD j (0, 0)) = some t) := ht
          have hoc := hoa.cell (i := j) (by rw [hl4.out]; exact hlt) (0, 0)
          have HOC : Hid (wo.cell? ⟨g4, j, none⟩ = some (cVal (o.getD j (0, 0)))) := hoc
          have hec := hea.cell (i := j) (by rw [hl2.out]; exact hlt) (0, 0)
          have HEC : Hid (wo.cell? ⟨g2, j, none⟩ = some (cVal (e.getD j (0, 0)))) := hec
          have hb0 : Bel wo wo.drew := (Bel.refl wo).drew
          have HADD : Hid (cAdd (e.getD j (0, 0)) t = some (lo.getD j (0, 0))) := hadd
          have HSUB : Hid (cSub (e.getD j (0, 0)) t = some (hi'.getD j (0, 0))) := hsub
          clear ht hadd hsub hoc hec hu hea hoa HTlo HThi
          generalize hxo : o.getD j (0, 0) = xo at HMul HOC
          have HXO : Hid (o.getD j (0, 0) = xo) := hxo
          generalize hxe : e.getD j (0, 0) = xe at HEC HADD HSUB
          have HXE : Hid (e.getD j (0, 0) = xe) := hxe
          generalize hxl : lo.getD j (0, 0) = xl at HADD
          have HXL : Hid (lo.getD j (0, 0) = xl) := hxl
          generalize hxh : hi'.getD j (0, 0) = xh at HSUB
          have HXH : Hid (hi'.getD j (0, 0) = xh) := hxh
          clear hxo hxe hxl hxh
          go_wp2_with fail
          go_region_held3 (fun w' => w'.cell? ⟨g4, j, none⟩ = some (cVal xo)) (first | exact Bel.cellv (by assumption) HOC.out) (first | (go_at_call 102; refine (callsFrom (there_any _ n (by omega) (by omega) (by omega) (by omega) H9.out _) (by assumption)).mono ?_; rintro e w' ⟨rfl, hb⟩) | (go_at_call 98; refine (mul_any _ _ _ _ HMul.out).mono ?_; rintro e w' ⟨rfl, rfl⟩))
          go_wp2_with fail
          have HS : Hid (S5 ⟨g2, j, none⟩ ⟨w.heap.size, j, none⟩ ⟨w.heap.size, j + n / 2, none⟩ (cVal xe) w') := by
            have hu := HU.out.bel hb
            have c1 := hu.cell (i := j) (by rw [halves_length, HLr.out]; omega) (0, 0)
            have c2 := hu.cell (i := j + n / 2) (by rw [halves_length, HLr.out]; omega) (0, 0)
            exact ⟨hb.cellv HEC.out, ⟨cellD_eq c1, hu.frozen _⟩, cellD_eq c2, hu.frozen _⟩
          have o1 := fun t w => run_complex_sum (P := Tryz.prog) w .add (Or.inl rfl) t .f64 _ _ _ _ _ _ HADD.out
          have o2 := fun t w => run_complex_sum (P := Tryz.prog) w .sub (Or.inr rfl) t .f64 _ _ _ _ _ _ HSUB.out
          have hb1 : Bel w' w'.drew := (Bel.refl w').drew
          have q1 : (n : Int).tdiv 2 = (n : Int) / 2 := Int.tdiv_eq_ediv_of_nonneg (by omega)
          have q2 : IntKind.i64.wrap ((n : Int) / 2) = (n : Int) / 2 := IntWalk.i64_in _ (by omega)
          have q3 : IntKind.i64.wrap ((j : Int) + (n : Int) / 2) = (j : Int) + (n : Int) / 2 := IntWalk.i64_in _ (by omega)
          have q4 : (0 : Int) ≤ (j : Int) + (n : Int) / 2 := by omega
          have q5 : (j : Int) + (n : Int) / 2 < n := by omega
          have q6 : ((j : Int) + (n : Int) / 2).toNat = j + n / 2 := by omega
          have q7 : (j : Int) < n := by omega
          have q8 : j < n := by omega
          go_region_held3 (fun w' => w'.cell? ⟨g2, j, none⟩ = some (cVal xe) ∧ (w'.cell? ⟨w.heap.size, j, none⟩ = some (cellD w' ⟨w.heap.size, j, none⟩) ∧ w'.frozen? ⟨w.heap.size, j, none⟩ = false) ∧ w'.cell? ⟨w.heap.size, j + n / 2, none⟩ = some (cellD w' ⟨w.heap.size, j + n / 2, none⟩) ∧ w'.frozen? ⟨w.heap.size, j + n / 2, none⟩ = false) (first | exact S5.bel HS.out (by assumption) | exact S5.store (by assumption) (by first | exact Or.inl rfl | exact Or.inr rfl) (by show g2 ≠ w.heap.size; omega) (by show g2 ≠ w.heap.size; omega) _) (fail)
          go_wp2_with fail
          have hll := (collect_some HL.out (0, 0)).1
          have e1 : r.getD j (0, 0) = xl := by
            rw [← HXL.out, ← HR.out, List.getD_eq_getElem?_getD, List.getD_eq_getElem?_getD, List.getElem?_append_left (by omega)]
          have e2 : r.getD (j + h) (0, 0) = xh := by
            rw [← HXH.out, ← HR.out, List.getD_eq_getElem?_getD, List.getD_eq_getElem?_getD, List.getElem?_append_right (by omega), show j + h - lo.length = j by omega]
          have A1 : CArr w' w.heap.size n (halves r h j) := HU.out.bel hb
          have A2 := (A1.store j xl).store (j + n / 2) xh
          have A3 := A2.ext (ys := halves r h (j + 1)) (by rw [← e1, ← e2, ← HH.out]; exact halves_succ r h j hlt)
          have B1 := ((HEA.out.bel hb).setOther (p := ⟨w.heap.size, j, none⟩) (by show w.heap.size ≠ g2; omega) (cVal xl)).setOther (p := ⟨w.heap.size, j + n / 2, none⟩) (by show w.heap.size ≠ g2; omega) (cVal xh)
          have B2 := ((HOA.out.bel hb).setOther (p := ⟨w.heap.size, j, none⟩) (by show w.heap.size ≠ g4; omega) (cVal xl)).setOther (p := ⟨w.heap.size, j + n / 2, none⟩) (by show w.heap.size ≠ g4; omega) (cVal xh)
          have C1 := ((hbw.trans hb).setCell (p := ⟨w.heap.size, j, none⟩) (Nat.le_refl _) (cVal xl)).setCell (p := ⟨w.heap.size, j + n / 2, none⟩) (Nat.le_refl _) (cVal xh)
          go_roundw
          case rel => exact ⟨j + 1, by omega, by go_num, A3.drew, B1.drew, B2.drew, C1.drew⟩
          case measure => simp [intOf]; omega
        · have : j = h := by omega
          subst this
          have HA : Hid (CArr wr w.heap.size n r) := hu.ext (halves_all r j (by rw [HLr.out, HH2.out]))
          have HB := Lib.hid hbw
          clear hu hea hoa hbw
          go_wp2
          go_ret
          exact ⟨⟨w.heap.size, n, rfl, HLr.out, Nat.le_refl _, HA.out⟩, HB.out⟩
set_option maxHeartbeats 2000000 in
theorem line_back (f : Nat) : ∀ (b off n cap : Nat) (xs r : List C) (w : World), xs.length = n → 192 % n = 0 → n ≤ 192 → lineP f true xs = some r →
    (∀ i, i < n → w.cell? ⟨b, off + i, none⟩ = some (cVal (xs.getD i (0, 0)))) →
    Calls Tryz.prog 90 #[.slice (some ⟨b, off, none⟩) n cap, .func (.func 91) #[] #[]] w fun e w' => RetArr 72 cVal n r w e w' ∧ Bel w w' := by
  induction f with
  | zero => intro b off n cap xs r w _ _ _ h; simp [lineP] at h
  | succ f ih =>
    intro b off n cap xs r w hn h192 hlen hr hx
    unfold lineP at hr
    split at hr
    · rename_i hodd
      subst hn
      exact line_odd_back b off cap xs r w hodd h192 hlen hr hx
    · rename_i hodd
      rw [hn] at hr hodd
      obtain ⟨i0, hi, hz0, hz1, hz2⟩ := info_parts info_c
      simp only [Option.bind_eq_some_iff, Option.some.injEq] at hr
      obtain ⟨e, he, o, ho, lo, hlo, hi', hhi, hr⟩ := hr
      have ho1 : ((n : Int) % 2 == 1) = false := by simp; omega
      have hn0 : 0 < n := by
        rcases Nat.eq_zero_or_pos n with h | h
        · subst h; simp at h192
        · exact h
      obtain ⟨h, hh⟩ : ∃ h, h = n / 2 := ⟨_, rfl⟩
      have hh2 : n = 2 * h := by omega
      rw [← hh] at he ho hlo hhi
      have h192h : 192 % h = 0 := by
        have := Nat.div_add_mod 192 n
        have h2 : 192 = h * (2 * (192 / n)) := by rw [← Nat.mul_assoc, Nat.mul_comm h 2, ← hh2]; omega
        rw [h2]; exact Nat.mul_mod_right _ _
      have hle : h ≤ 96 := by omega
      have hge : 0 < h := by omega
      have hlt2 : n ≤ 2 * h := by omega
      have hlt3 : 2 * h ≤ n := by omega
      have HN : Hid (xs.length = n) := hn
      have HE : Hid (lineP f true (partN xs 0 h) = some e) := he
      have HO : Hid (lineP f true (partN xs 1 h) = some o) := ho
      have HL : Hid (collect (bfLo true n e o) h = some lo) := hlo
      have HI : Hid (collect (bfHi true n e o) h = some hi') := hhi
      have HR : Hid (lo ++ hi' = r) := hr
      have HX : Hid (∀ i, i < n → w.cell? ⟨b, off + i, none⟩ = some (cVal (xs.getD i (0, 0)))) := hx
      have H9 : Hid (192 % n = 0) := h192
      have H9h : Hid (192 % h = 0) := h192h
      have IH := Lib.hid ih
      have HH : Hid (h = n / 2) := hh
      have HH2 : Hid (n = 2 * h) := hh2
      clear hn he ho hlo hhi hr hx h192 h192h ih hh hh2 hodd
      go_enter Tryz.func90, Tryz.ntmps90
      go_wp2_with (first | (refine wpList_make_arr _ rfl (.tmp 16) (.tmp 16) 67 rfl 72 i0 cVal (0, 0) 16 Tryz.underlying67 hi hz0 hz1 hz2 rfl .i64 .i64 _ _ n rfl rfl rfl rfl (by omega) (by omega) ?_; intro w1 hout hb1) | fail)
      have HOUT : Hid (CArr w1 w.heap.size n (List.replicate n (0, 0))) := hout
      clear hout
      have hp := fun w2 (hb : Bel w w2) => parted_even b off cap h xs w2 hge (by rw [HN.out]; omega) (by rw [HN.out]; exact HH2.out) (fun i hi => hb.cellv (HX.out i (by rw [← HN.out]; exact hi)))
      rw [HN.out] at hp
      refine (hp _ hb1).mono ?_
      rintro e1 w2 ⟨⟨g1, c1, rfl, hl1, hg1, ha1⟩, hb2⟩
      clear hp
      go_wp2_with fail
      refine (IH.out g1 0 h c1 _ e w2 hl1.out H9h.out (by omega) HE.out (fun i hi => by rw [Nat.zero_add]; exact ha1.cell (by rw [hl1.out]; exact hi) _)).mono ?_
      rintro e1 w3 ⟨⟨g2, c2, rfl, hl2, hg2, ha2⟩, hb3⟩
      go_wp2_with fail
      have hp := fun w2 (hb : Bel w w2) => parted_odd b off cap h xs w2 hge (by rw [HN.out]; omega) (by rw [HN.out]; exact HH2.out) (fun i hi => hb.cellv (HX.out i (by rw [← HN.out]; exact hi)))
      rw [HN.out] at hp
      refine (hp _ ((hb1.trans hb2).trans hb3)).mono ?_
      rintro e1 w4 ⟨⟨g3, c3, rfl, hl3, hg3, ha3⟩, hb4⟩
      clear hp
      go_wp2_with fail
      refine (IH.out g3 0 h c3 _ o w4 hl3.out H9h.out (by omega) HO.out (fun i hi => by rw [Nat.zero_add]; exact ha3.cell (by rw [hl3.out]; exact hi) _)).mono ?_
      rintro e1 w5 ⟨⟨g4, c4, rfl, hl4, hg4, ha4⟩, hb5⟩
      go_wp2_with fail
      have HEA : CArr w5 g2 c2 e := ((ha2.bel hb4).bel hb5)
      have HOA : CArr w5 g4 c4 o := ha4
      have HUA : CArr w5 w.heap.size n (List.replicate n (0, 0)) := (((HOUT.out.bel hb2).bel hb3).bel hb4).bel hb5
      have hb : Bel w w5 := (((hb1.trans hb2).trans hb3).trans hb4).trans hb5
      have hne2 : w.heap.size < g2 := by have := HOUT.out.lt; have := hb2.size; omega
      have hne4 : w.heap.size < g4 := by have := HOUT.out.lt; have := hb2.size; have := hb3.size; have := hb4.size; omega
      have HLr : Hid (r.length = n) := by
        have h1 := (collect_some HL.out (0, 0)).1
        have h2 := (collect_some HI.out (0, 0)).1
        unfold Hid; rw [← HR.out, List.length_append, h1, h2, HH2.out]; omega
      clear HOUT ha1 ha2 ha3 ha4 hb1 hb2 hb3 hb4 hb5 hg1 hg2 hg3 hg4 HX
      go_loopw [65] (fun i wr => ∃ j : Nat, j ≤ h ∧ i = .int .i64 j ∧ CArr wr w.heap.size n (halves r h j) ∧ CArr wr g2 c2 e ∧ CArr wr g4 c4 o ∧ Bel w wr) (fun i _ => h - (intOf i).toNat)
      case atStart => exact ⟨0, Nat.zero_le _, rfl, HUA.ext (by rw [halves_zero, HLr.out]), HEA, HOA, hb⟩
      case round =>
        clear HEA HOA HUA hb
        obtain ⟨j, hj, rfl, hu, hea, hoa, hbw⟩ := hrel
        by_cases hlt : j < h
        · obtain ⟨wo, rfl⟩ : ∃ wo : World, wo = wr := ⟨_, rfl⟩
          have HU : Hid (CArr wo w.heap.size n (halves r h j)) := hu
          have HEA : Hid (CArr wo g2 c2 e) := hea
          have HOA : Hid (CArr wo g4 c4 o) := hoa
          have HTlo : Hid (bfLo true n e o j = some (lo.getD j (0, 0))) := (collect_some HL.out (0, 0)).2 j hlt
          have HThi : Hid (bfHi true n e o j = some (hi'.getD j (0, 0))) := (collect_some HI.out (0, 0)).2 j hlt
          obtain ⟨t, ht, hadd⟩ := Option.bind_eq_some_iff.1 HTlo.out
          have hsub : cSub (e.getD j (0, 0)) t = some (hi'.getD j (0, 0)) := by
            obtain ⟨t', ht', hs⟩ := Option.bind_eq_some_iff.1 HThi.out
            rw [ht] at ht'; cases ht'; exact hs
          have HMul : Hid (cMul (wy true j n) (o.getD j (0, 0)) = some t) := ht
          have hoc := hoa.cell (i := j) (by rw [hl4.out]; exact hlt) (0, 0)
          have HOC : Hid (wo.cell? ⟨g4, j, none⟩ = some (cVal (o.getD j (0, 0)))) := hoc
          have hec := hea.cell (i := j) (by rw [hl2.out]; exact hlt) (0, 0)
          have HEC : Hid (wo.cell? ⟨g2, j, none⟩ = some (cVal (e.getD j (0, 0)))) := hec
          have hb0 : Bel wo wo.drew := (Bel.refl wo).drew
          have HADD : Hid (cAdd (e.getD j (0, 0)) t = some (lo.getD j (0, 0))) := hadd
          have HSUB : Hid (cSub (e.getD j (0, 0)) t = some (hi'.getD j (0, 0))) := hsub
          clear ht hadd hsub hoc hec hu hea hoa HTlo HThi
          generalize hxo : o.getD j (0, 0) = xo at HMul HOC
          have HXO : Hid (o.getD j (0, 0) = xo) := hxo
          generalize hxe : e.getD j (0, 0) = xe at HEC HADD HSUB
          have HXE : Hid (e.getD j (0, 0) = xe) := hxe
          generalize hxl : lo.getD j (0, 0) = xl at HADD
          have HXL : Hid (lo.getD j (0, 0) = xl) := hxl
          generalize hxh : hi'.getD j (0, 0) = xh at HSUB
          have HXH : Hid (hi'.getD j (0, 0) = xh) := hxh
          clear hxo hxe hxl hxh
          go_wp2_with fail
          go_region_held3 (fun w' => w'.cell? ⟨g4, j, none⟩ = some (cVal xo)) (first | exact Bel.cellv (by assumption) HOC.out) (first | (go_at_call 91; refine (callsFrom (back_any _ n (by omega) (by omega) (by omega) (by omega) H9.out _) (by assumption)).mono ?_; rintro e w' ⟨rfl, hb⟩) | (go_at_call 98; refine (mul_any _ _ _ _ HMul.out).mono ?_; rintro e w' ⟨rfl, rfl⟩))
          go_wp2_with fail
          have HS : Hid (S5 ⟨g2, j, none⟩ ⟨w.heap.size, j, none⟩ ⟨w.heap.size, j + n / 2, none⟩ (cVal xe) w') := by
            have hu := HU.out.bel hb
            have c1 := hu.cell (i := j) (by rw [halves_length, HLr.out]; omega) (0, 0)
            have c2 := hu.cell (i := j + n / 2) (by rw [halves_length, HLr.out]; omega) (0, 0)
            exact ⟨hb.cellv HEC.out, ⟨cellD_eq c1, hu.frozen _⟩, cellD_eq c2, hu.frozen _⟩
          have o1 := fun t w => run_complex_sum (P := Tryz.prog) w .add (Or.inl rfl) t .f64 _ _ _ _ _ _ HADD.out
          have o2 := fun t w => run_complex_sum (P := Tryz.prog) w .sub (Or.inr rfl) t .f64 _ _ _ _ _ _ HSUB.out
          have hb1 : Bel w' w'.drew := (Bel.refl w').drew
          have q1 : (n : Int).tdiv 2 = (n : Int) / 2 := Int.tdiv_eq_ediv_of_nonneg (by omega)
          have q2 : IntKind.i64.wrap ((n : Int) / 2) = (n : Int) / 2 := IntWalk.i64_in _ (by omega)
          have q3 : IntKind.i64.wrap ((j : Int) + (n : Int) / 2) = (j : Int) + (n : Int) / 2 := IntWalk.i64_in _ (by omega)
          have q4 : (0 : Int) ≤ (j : Int) + (n : Int) / 2 := by omega
          have q5 : (j : Int) + (n : Int) / 2 < n := by omega
          have q6 : ((j : Int) + (n : Int) / 2).toNat = j + n / 2 := by omega
          have q7 : (j : Int) < n := by omega
          have q8 : j < n := by omega
          go_region_held3 (fun w' => w'.cell? ⟨g2, j, none⟩ = some (cVal xe) ∧ (w'.cell? ⟨w.heap.size, j, none⟩ = some (cellD w' ⟨w.heap.size, j, none⟩) ∧ w'.frozen? ⟨w.heap.size, j, none⟩ = false) ∧ w'.cell? ⟨w.heap.size, j + n / 2, none⟩ = some (cellD w' ⟨w.heap.size, j + n / 2, none⟩) ∧ w'.frozen? ⟨w.heap.size, j + n / 2, none⟩ = false) (first | exact S5.bel HS.out (by assumption) | exact S5.store (by assumption) (by first | exact Or.inl rfl | exact Or.inr rfl) (by show g2 ≠ w.heap.size; omega) (by show g2 ≠ w.heap.size; omega) _) (fail)
          go_wp2_with fail
          have hll := (collect_some HL.out (0, 0)).1
          have e1 : r.getD j (0, 0) = xl := by
            rw [← HXL.out, ← HR.out, List.getD_eq_getElem?_getD, List.getD_eq_getElem?_getD, List.getElem?_append_left (by omega)]
          have e2 : r.getD (j + h) (0, 0) = xh := by
            rw [← HXH.out, ← HR.out, List.getD_eq_getElem?_getD, List.getD_eq_getElem?_getD, List.getElem?_append_right (by omega), show j + h - lo.length = j by omega]
          have A1 : CArr w' w.heap.size n (halves r h j) := HU.out.bel hb
          have A2 := (A1.store j xl).store (j + n / 2) xh
          have A3 := A2.ext (ys := halves r h (j + 1)) (by rw [← e1, ← e2, ← HH.out]; exact halves_succ r h j hlt)
          have B1 := ((HEA.out.bel hb).setOther (p := ⟨w.heap.size, j, none⟩) (by show w.heap.size ≠ g2; omega) (cVal xl)).setOther (p := ⟨w.heap.size, j + n / 2, none⟩) (by show w.heap.size ≠ g2; omega) (cVal xh)
          have B2 := ((HOA.out.bel hb).setOther (p := ⟨w.heap.size, j, none⟩) (by show w.heap.size ≠ g4; omega) (cVal xl)).setOther (p := ⟨w.heap.size, j + n / 2, none⟩) (by show w.heap.size ≠ g4; omega) (cVal xh)
          have C1 := ((hbw.trans hb).setCell (p := ⟨w.heap.size, j, none⟩) (Nat.le_refl _) (cVal xl)).setCell (p := ⟨w.heap.size, j + n / 2, none⟩) (Nat.le_refl _) (cVal xh)
          go_roundw
          case rel => exact ⟨j + 1, by omega, by go_num, A3.drew, B1.drew, B2.drew, C1.drew⟩
          case measure => simp [intOf]; omega
        · have : j = h := by omega
          subst this
          have HA : Hid (CArr wr w.heap.size n r) := hu.ext (halves_all r j (by rw [HLr.out, HH2.out]))
          have HB := Lib.hid hbw
          clear hu hea hoa hbw
          go_wp2
          go_ret
          exact ⟨⟨w.heap.size, n, rfl, HLr.out, Nat.le_refl _, HA.out⟩, HB.out⟩

end Go.Proofs.YtehiabiahipkhaaGreat

namespace Go.Proofs.YtehiabiahipkhaaGreat
open Go.RowKit
set_option linter.unusedVariables false
set_option linter.unusedSimpArgs false

/-- fft.undone: a line back, each part divided by the count. -/
def undoneP (xs : List C) : Option (List C) := (lineP 9 true xs).bind fun l => collect (fun i => divC (floatOfInt .f64 l.length) (l.getD i (0, 0))) l.length

theorem undoneP_length {xs r : List C} (h : undoneP xs = some r) : r.length = xs.length := by
  obtain ⟨l, hl, hc⟩ := Option.bind_eq_some_iff.1 h
  rw [(collect_some hc (0, 0)).1, lineP_length hl]

/-- A list whose first k elements have been replaced by those of another. -/
def mixed (l r : List C) (k : Nat) : List C := (List.range l.length).map fun i => if i < k then r.getD i (0, 0) else l.getD i (0, 0)
theorem mixed_length (l r : List C) (k : Nat) : (mixed l r k).length = l.length := by simp [mixed]
theorem mixed_zero (l r : List C) : mixed l r 0 = l := by
  apply List.ext_getElem?; intro i
  by_cases hi : i < l.length <;> simp [mixed, hi, List.getD_eq_getElem?_getD]
theorem mixed_all (l r : List C) (h : r.length = l.length) : mixed l r l.length = r := by
  apply List.ext_getElem?; intro i
  by_cases hi : i < l.length
  · simp [mixed, hi, List.getD_eq_getElem?_getD, show i < r.length by omega]
  · simp [mixed, hi, show r.length ≤ i by omega]
theorem mixed_get (l r : List C) (k : Nat) (h : k < l.length) : (mixed l r k).getD k (0, 0) = l.getD k (0, 0) := by simp [mixed, h]
theorem mixed_succ (l r : List C) (k : Nat) : (mixed l r k).set k (r.getD k (0, 0)) = mixed l r (k + 1) := by
  apply List.ext_getElem?; intro i
  simp only [mixed, List.getElem?_set, List.length_map, List.length_range, List.getElem?_map]
  by_cases hi : i < l.length
  · by_cases hik : k = i
    · subst hik; simp [hi]
    · simp [hik, hi, show (i < k + 1) = (i < k) by simp; omega]
  · by_cases hik : k = i
    · subst hik; simp [hi]
    · simp [hik, hi]

set_option maxHeartbeats 1000000 in
theorem undone_any (b off n cap : Nat) (xs r : List C) (w : World) (hn : xs.length = n) (h192 : 192 % n = 0) (hlen : n ≤ 192) (hr : undoneP xs = some r)
    (hx : ∀ i, i < n → w.cell? ⟨b, off + i, none⟩ = some (cVal (xs.getD i (0, 0)))) :
    Calls Tryz.prog 67 #[.slice (some ⟨b, off, none⟩) n cap] w fun e w' => RetArr 72 cVal n r w e w' ∧ Bel w w' := by
  obtain ⟨l, hl, hc⟩ := Option.bind_eq_some_iff.1 hr
  have HLL : Hid (l.length = n) := by unfold Hid; rw [lineP_length hl, hn]
  rw [HLL.out] at hc
  have HCC : Hid (collect (fun i => divC (floatOfInt .f64 n) (l.getD i (0, 0))) n = some r) := hc
  have HRL : Hid (r.length = n) := (collect_some hc (0, 0)).1
  have HC := Lib.hid (fun w1 (h : w1 = w) => line_back 9 b off n cap xs l w1 hn h192 hlen hl (by rw [h]; exact hx))
  clear hn h192 hr hx hc hl
  go_enter Tryz.func67, Tryz.ntmps67
  go_wp2_with fail
  refine (HC.out _ rfl).mono ?_
  rintro e w' ⟨⟨g, c, rfl, hl, hg, ha⟩, hb⟩
  go_wp2_with fail
  have HG : Hid (w.heap.size ≤ g) := hg
  obtain ⟨d, hd⟩ : ∃ d, d = floatOfInt .f64 n := ⟨_, rfl⟩
  rw [← hd] at HCC
  rw [← hd]
  have HD : Hid (d = floatOfInt .f64 n) := hd
  have HA : Hid (CArr w' g c (mixed l r 0)) := ha.ext (mixed_zero l r).symm
  have HBW : Hid (Bel w w') := hb
  clear hd ha hg hb
  go_loopw [14] (fun i wr => ∃ j : Nat, j ≤ n ∧ i = .int .i64 j ∧ CArr wr g c (mixed l r j) ∧ Bel w wr) (fun i _ => n - (intOf i).toNat)
  case atStart => exact ⟨0, Nat.zero_le _, rfl, HA.out, HBW.out⟩
  case round =>
    clear HA HBW
    obtain ⟨j, hj, rfl, ha, hbw⟩ := hrel
    by_cases hlt : j < n
    · have hcell := ha.cell (i := j) (by rw [mixed_length, HLL.out]; exact hlt) (0, 0)
      have hfr := ha.frozen j
      rw [mixed_get l r j (by rw [HLL.out]; exact hlt)] at hcell
      have hdv := (collect_some HCC.out (0, 0)).2 j hlt
      have HA : Hid (CArr wr g c (mixed l r j)) := ha
      have HBW : Hid (Bel w wr) := hbw
      clear ha hbw
      generalize hx : l.getD j (0, 0) = x at hcell hdv
      generalize hy : r.getD j (0, 0) = y at hdv
      have HY : Hid (r.getD j (0, 0) = y) := hy
      clear hx hy
      obtain ⟨y1, h1, h2⟩ := Option.bind_eq_some_iff.1 hdv
      obtain ⟨y2, h3, h4⟩ := Option.bind_eq_some_iff.1 h2
      have hyy : y = (y1, y2) := (Option.some.inj h4).symm
      subst hyy
      clear hdv h2 h4
      have o1 := fun t w => run_float_arith (P := Tryz.prog) w .quo t .f64 _ _ _ h1
      have o2 := fun t w => run_float_arith (P := Tryz.prog) w .quo t .f64 _ _ _ h3
      clear h1 h3
      go_wp2
      go_roundw
      case rel => exact ⟨j + 1, by omega, by go_num, (HA.out.store j (y1, y2)).ext (by rw [← HY.out]; exact mixed_succ l r j), HBW.out.setCell HG.out _⟩
      case measure => simp [intOf]; omega
    · have : j = n := by omega
      subst this
      have HA : Hid (CArr wr g c r) := ha.ext (by rw [← HLL.out]; exact mixed_all l r (by rw [HRL.out, HLL.out]))
      have HBW : Hid (Bel w wr) := hbw
      clear ha hbw
      go_wp2
      go_ret
      exact ⟨⟨g, c, rfl, HRL.out, HG.out, HA.out⟩, HBW.out⟩

theorem divides_yes (n : Nat) (w : World) (h0 : 1 ≤ n) (h1 : n ≤ 192) (h2 : 192 % n = 0) :
    Calls Tryz.prog 97 #[.int .i64 n] w fun e w' => e = .returned (.bool true) ∧ w = w' := by
  refine (divides_any n w (by omega) (by omega)).mono fun e w' ⟨he, hw⟩ => ⟨?_, hw⟩
  have h3 : (192 : Int) % n = 0 := by have h := congrArg (fun n : Nat => (n : Int)) h2; simpa using h
  rw [he, show decide ((1 : Int) ≤ n ∧ (n : Int) ≤ 192 ∧ (192 : Int) % n = 0) = true by simp [h3]; omega]

end Go.Proofs.YtehiabiahipkhaaGreat

namespace Go.Proofs.YtehiabiahipkhaaGreat
open Go.RowKit
set_option linter.unusedVariables false
set_option linter.unusedSimpArgs false

/-- A grid as a value. -/
abbrev gridV (n0 n1 n2 : Nat) (a : Option Addr) (len cap : Nat) : Value := .agg #[.int .i64 n0, .int .i64 n1, .int .i64 n2, .slice a len cap]

/-- Sides that divide 192, and not too many places. -/
structure Sides (n0 n1 n2 : Nat) : Prop where
  a0 : 1 ≤ n0
  a1 : 1 ≤ n1
  a2 : 1 ≤ n2
  b0 : n0 ≤ 192
  b1 : n1 ≤ 192
  b2 : n2 ≤ 192
  c0 : 192 % n0 = 0
  c1 : 192 % n1 = 0
  c2 : 192 % n2 = 0
  p : n0 * n1 * n2 ≤ 262144

@[go_sem] theorem index3_0 (x0 x1 x2 : Value) (w : World) : (Instr.index 23 (.agg #[x0, x1, x2]) (.int .i64 0)).run Tryz.prog w = .ok x0 w := by kernel_rfl
@[go_sem] theorem index3_1 (x0 x1 x2 : Value) (w : World) : (Instr.index 23 (.agg #[x0, x1, x2]) (.int .i64 1)).run Tryz.prog w = .ok x1 w := by kernel_rfl
@[go_sem] theorem index3_2 (x0 x1 x2 : Value) (w : World) : (Instr.index 23 (.agg #[x0, x1, x2]) (.int .i64 2)).run Tryz.prog w = .ok x2 w := by kernel_rfl

theorem mul2_bounds (n0 n1 : Nat) (b0 : n0 ≤ 192) (b1 : n1 ≤ 192) : (0 : Int) ≤ (n0 : Int) * n1 ∧ (n0 : Int) * n1 ≤ 36864 := by
  have h : n0 * n1 ≤ 192 * 192 := Nat.mul_le_mul b0 b1
  rw [← Int.natCast_mul]; omega
theorem mul3_bounds (n0 n1 n2 : Nat) (b : n0 * n1 * n2 ≤ 262144) : (0 : Int) ≤ (n0 : Int) * n1 * n2 ∧ (n0 : Int) * n1 * n2 ≤ 262144 := by
  rw [← Int.natCast_mul, ← Int.natCast_mul]; omega

set_option maxHeartbeats 1000000 in
theorem check_ok (n0 n1 n2 : Nat) (a : Option Addr) (cap : Nat) (w : World) (hs : Sides n0 n1 n2) :
    Calls Tryz.prog 88 #[gridV n0 n1 n2 a (n0 * n1 * n2) cap] w fun e w' => e = .returned (.int .i64 0) ∧ Bel w w' := by
  have HV0 := Lib.hid (fun w1 => divides_yes n0 w1 hs.a0 hs.b0 hs.c0)
  have HV1 := Lib.hid (fun w1 => divides_yes n1 w1 hs.a1 hs.b1 hs.c1)
  have HV2 := Lib.hid (fun w1 => divides_yes n2 w1 hs.a2 hs.b2 hs.c2)
  have m2 := mul2_bounds n0 n1 hs.b0 hs.b1
  have m3 := mul3_bounds n0 n1 n2 hs.p
  have m20 := m2.1
  have m21 := m2.2
  have m30 := m3.1
  have m31 := m3.2
  have hpl := hs.p
  clear m2 m3 hs
  go_enter Tryz.func88, Tryz.ntmps88
  go_wp2_with fail
  go_loop [8] (fun i => ∃ k : Nat, k ≤ 3 ∧ i = .int .i64 k) (fun i => 3 - (intOf i).toNat)
  case atStart => exact ⟨0, by omega, rfl⟩
  case round =>
    obtain ⟨k, hk, rfl⟩ := hrel
    match k, hk with
    | 0, _ =>
      go_wp2_with (go_at_call 97; refine (HV0.out _).mono ?_; rintro e w' ⟨rfl, rfl⟩)
      go_round
      case rel => exact ⟨1, by omega, by go_num⟩
      case measure => simp [intOf]
    | 1, _ =>
      go_wp2_with (go_at_call 97; refine (HV1.out _).mono ?_; rintro e w' ⟨rfl, rfl⟩)
      go_round
      case rel => exact ⟨2, by omega, by go_num⟩
      case measure => simp [intOf]
    | 2, _ =>
      go_wp2_with (go_at_call 97; refine (HV2.out _).mono ?_; rintro e w' ⟨rfl, rfl⟩)
      go_round
      case rel => exact ⟨3, by omega, by go_num⟩
      case measure => simp [intOf]
    | 3, _ =>
      go_wp2_with fail
      go_ret
      exact ⟨rfl, (Bel.refl w).alloc _⟩

end Go.Proofs.YtehiabiahipkhaaGreat

namespace Go.Proofs.YtehiabiahipkhaaGreat

/-- The row that begins at a place. -/
def rowOf (n apart : Nat) (ys : List C) (at0 : Nat) : List C := (List.range n).map fun i => ys.getD (at0 + i * apart) (0, 0)
/-- The first i of a row's new numbers laid back. -/
def putN (apart : Nat) (ys : List C) (at0 : Nat) (r : List C) : Nat → List C
  | 0 => ys
  | i + 1 => (putN apart ys at0 r i).set (at0 + i * apart) (r.getD i (0, 0))
/-- The numbers when the first k places have been gone through. -/
def alongN (f : List C → Option (List C)) (n apart : Nat) (xs : List C) : Nat → Option (List C)
  | 0 => some xs
  | k + 1 => (alongN f n apart xs k).bind fun ys => if k / apart % n = 0 then (f (rowOf n apart ys k)).bind fun r => some (putN apart ys k r n) else some ys
def alongP (f : List C → Option (List C)) (n apart : Nat) (xs : List C) : Option (List C) := alongN f n apart xs xs.length

theorem rowOf_length (n apart : Nat) (ys : List C) (k : Nat) : (rowOf n apart ys k).length = n := by simp [rowOf]
theorem rowOf_get (n apart : Nat) (ys : List C) (k i : Nat) (h : i < n) : (rowOf n apart ys k).getD i (0, 0) = ys.getD (k + i * apart) (0, 0) := by simp [rowOf, h]
theorem putN_length (apart : Nat) (ys : List C) (k : Nat) (r : List C) (i : Nat) : (putN apart ys k r i).length = ys.length := by
  induction i with
  | zero => rfl
  | succ i ih => simp [putN, ih]
theorem alongN_length {f : List C → Option (List C)} {n apart : Nat} {xs ys : List C} {k : Nat} (h : alongN f n apart xs k = some ys) : ys.length = xs.length := by
  induction k generalizing ys with
  | zero => simp [alongN] at h; rw [h]
  | succ k ih =>
    obtain ⟨zs, hz, hs⟩ := Option.bind_eq_some_iff.1 h
    split at hs
    · obtain ⟨r, _, hr⟩ := Option.bind_eq_some_iff.1 hs
      cases hr
      rw [putN_length, ih hz]
    · cases hs; exact ih hz
theorem alongN_some {f : List C → Option (List C)} {n apart : Nat} {xs ys : List C} {m : Nat} (h : alongN f n apart xs m = some ys) : ∀ k, k ≤ m → ∃ zs, alongN f n apart xs k = some zs := by
  induction m generalizing ys with
  | zero => intro k hk; obtain rfl : k = 0 := by omega
            exact ⟨_, h⟩
  | succ m ih =>
    intro k hk
    by_cases hkm : k = m + 1
    · subst hkm; exact ⟨_, h⟩
    · obtain ⟨zs, hz, _⟩ := Option.bind_eq_some_iff.1 h
      exact ih hz k (by omega)
theorem alongN_skip {f : List C → Option (List C)} {n apart : Nat} {xs ys : List C} {k : Nat} (h : alongN f n apart xs k = some ys) (hz : k / apart % n ≠ 0) : alongN f n apart xs (k + 1) = some ys := by
  simp [alongN, h, hz]
theorem alongN_take {f : List C → Option (List C)} {n apart : Nat} {xs ys zs : List C} {k m : Nat} (hm : alongN f n apart xs m = some zs) (hk : k < m) (h : alongN f n apart xs k = some ys) (hz : k / apart % n = 0) :
    ∃ r, f (rowOf n apart ys k) = some r ∧ alongN f n apart xs (k + 1) = some (putN apart ys k r n) := by
  obtain ⟨vs, hv⟩ := alongN_some hm (k + 1) (by omega)
  have hv' := hv
  simp only [alongN, h, Option.bind_some, hz, if_true] at hv'
  obtain ⟨r, hr, hs⟩ := Option.bind_eq_some_iff.1 hv'
  exact ⟨r, hr, by rw [hv]; exact hs.symm⟩

theorem along_lt (k apart n m i : Nat) (h0 : 0 < apart) (hk : k < n * apart * m) (hz : k / apart % n = 0) (hi : i < n) : k + i * apart < n * apart * m := by
  have h1 : k = apart * (k / apart) + k % apart := (Nat.div_add_mod k apart).symm
  have h2 : k / apart = n * (k / apart / n) := by have := Nat.div_add_mod (k / apart) n; omega
  have h3 : k % apart < apart := Nat.mod_lt _ h0
  generalize hq : k / apart / n = q at h2
  have h4 : q < m := by
    rcases Nat.lt_or_ge q m with h | h
    · exact h
    · exfalso
      have : n * apart * m ≤ n * apart * q := Nat.mul_le_mul_left _ h
      have e : apart * (n * q) = n * apart * q := by rw [← Nat.mul_assoc, Nat.mul_comm apart n]
      rw [h2, e] at h1
      omega
  have h5 : n * apart * (q + 1) ≤ n * apart * m := Nat.mul_le_mul_left _ h4
  have e : apart * (n * q) = n * apart * q := by rw [← Nat.mul_assoc, Nat.mul_comm apart n]
  rw [h2, e] at h1
  have h6 : (i + 1) * apart ≤ n * apart := Nat.mul_le_mul_right _ hi
  rw [Nat.add_mul, Nat.one_mul] at h6
  rw [Nat.mul_add, Nat.mul_one] at h5
  omega

/-- Along the third edge, the second, the first. -/
def boxP (f : List C → Option (List C)) (n0 n1 n2 : Nat) (xs : List C) : Option (List C) :=
  (alongP f n2 1 xs).bind fun a => (alongP f n1 n2 a).bind fun b => alongP f n0 (n2 * n1) b

theorem alongP_length {f : List C → Option (List C)} {n apart : Nat} {xs ys : List C} (h : alongP f n apart xs = some ys) : ys.length = xs.length := alongN_length h

end Go.Proofs.YtehiabiahipkhaaGreat
