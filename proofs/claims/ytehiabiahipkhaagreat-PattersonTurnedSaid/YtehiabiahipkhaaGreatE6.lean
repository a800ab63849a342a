/-
  The walk of facetlaw23.PattersonTurned (awake given).
-/
import Derived.Test.YtehiabiahipkhaaGreatE5
namespace Go.Proofs.YtehiabiahipkhaaGreat
open Go.RowKit
set_option linter.unusedVariables false
set_option linter.unusedSimpArgs false

/-- A side that the law draws. -/
def TS (n : Nat) : Prop := 1 ≤ n ∧ n ≤ 64 ∧ 192 % n = 0
instance (n : Nat) : Decidable (TS n) := by unfold TS; infer_instance
theorem TS.dv {n : Nat} (h : TS n) : Dv n := ⟨h.1, by have := h.2.1; omega, h.2.2⟩
theorem TS.s3 {n : Nat} (h : TS n) : S3 1 1 n n := ⟨⟨by decide, by decide, by decide⟩, ⟨by decide, by decide, by decide⟩, ⟨h.1, by have := h.2.1; omega, h.2.2⟩, by simp, by have := h.2.1; omega⟩
theorem wrap_u8' {r : Nat} (h : r < 12) : IntKind.u8.wrap (r : Int) = (r : Int) := by
  rcases (by omega : r = 0 ∨ r = 1 ∨ r = 2 ∨ r = 3 ∨ r = 4 ∨ r = 5 ∨ r = 6 ∨ r = 7 ∨ r = 8 ∨ r = 9 ∨ r = 10 ∨ r = 11) with rfl | rfl | rfl | rfl | rfl | rfl | rfl | rfl | rfl | rfl | rfl | rfl <;> decide

set_option maxRecDepth 100000 in
/-- The side that the law draws. -/
theorem drawn_side (r : Nat) (h : r < 12) : ∃ n : Nat, TS n ∧ ∀ W : World, (Instr.index 58 (.agg #[.int .i64 1, .int .i64 2, .int .i64 3, .int .i64 4, .int .i64 6, .int .i64 8, .int .i64 12, .int .i64 16, .int .i64 24, .int .i64 32, .int .i64 48, .int .i64 64]) (.int .u8 (r : Int))).run Tryz.prog W = .ok (.int .i64 n) W := by
  rcases (by omega : r = 0 ∨ r = 1 ∨ r = 2 ∨ r = 3 ∨ r = 4 ∨ r = 5 ∨ r = 6 ∨ r = 7 ∨ r = 8 ∨ r = 9 ∨ r = 10 ∨ r = 11) with rfl | rfl | rfl | rfl | rfl | rfl | rfl | rfl | rfl | rfl | rfl | rfl
  · exact ⟨1, by decide, fun W => by rfl⟩
  · exact ⟨2, by decide, fun W => by rfl⟩
  · exact ⟨3, by decide, fun W => by rfl⟩
  · exact ⟨4, by decide, fun W => by rfl⟩
  · exact ⟨6, by decide, fun W => by rfl⟩
  · exact ⟨8, by decide, fun W => by rfl⟩
  · exact ⟨12, by decide, fun W => by rfl⟩
  · exact ⟨16, by decide, fun W => by rfl⟩
  · exact ⟨24, by decide, fun W => by rfl⟩
  · exact ⟨32, by decide, fun W => by rfl⟩
  · exact ⟨48, by decide, fun W => by rfl⟩
  · exact ⟨64, by decide, fun W => by rfl⟩

set_option maxHeartbeats 8000000 in
set_option maxRecDepth 100000 in
theorem turned_walk (HAW : ∀ W : World, Calls Tryz.prog 8 #[] W fun e w' => e = .returned (.bool true) ∧ Bel W w')
    (k m cp : Nat) (ao : Option Addr) (xs : Nat → Int) (w : World) (hk : k < 256) (hx : Shorts w ao m xs) :
    Calls Tryz.prog 7 #[.int .u8 k, .slice ao m cp] w fun e w' => e = .returned (.bool true) ∧ Bel w w' := by
  have HA := Lib.hid HAW
  have HX := Lib.hid hx
  have hr12 : k % 12 < 12 := Nat.mod_lt _ (by omega)
  have r1 : ((k : Int)).tmod 12 = ((k % 12 : Nat) : Int) := by rw [Int.tmod_eq_emod_of_nonneg (Int.natCast_nonneg _)]; rfl
  have r2 : IntKind.u8.wrap ((k % 12 : Nat) : Int) = ((k % 12 : Nat) : Int) := wrap_u8' hr12
  obtain ⟨n, hts, hix⟩ := drawn_side (k % 12) hr12
  have HT := Lib.hid hts
  have hn64 := hts.2.1
  clear HAW hx hk hts
  have hmk : ∀ W : World, (Instr.makeSlice 24 (.int .i64 (n : Int)) (.int .i64 (n : Int))).run Tryz.prog W = .ok (.slice (some ⟨W.heap.size, 0, none⟩) n n) (W.alloc (.cells (madeCells #[.int .i64 0] n) 3)) := by
    obtain ⟨j0, hj, hj0, hj1, hj2⟩ := info_parts' info_i
    intro W
    have := run_make (P := Tryz.prog) W 24 3 j0 _ Tryz.underlying24 hj hj0 .i64 .i64 n n (by omega) (by omega) (by rw [hj2]; omega) (by omega)
    rw [hj1, Nat.mul_one] at this
    exact this
  generalize k % 12 = r at *
  go_enter Tryz.func7, Tryz.ntmps7
  go_wp2_with fail
  refine (HA.out _).mono ?_
  rintro e w1 ⟨rfl, hb1⟩
  have HB1 := Lib.hid hb1
  clear hb1
  go_wp2_with fail
  generalize hW2 : World.alloc _ _ = W2
  have hn2 : n ≤ 262144 := by omega
  have HI0 : Hid (IArr W2 w1.heap.size n (List.replicate n 0)) := by rw [← hW2]; exact (arr_made w1 n hn2).alloc _
  have K0 : Hid (CVar W2 (w1.heap.size + 1) 1 1 n (some ⟨w1.heap.size, 0, none⟩) n n) := by
    rw [← hW2]
    have hz : (w1.alloc (.cells (madeCells #[.int .i64 0] n) 3)).heap.size = w1.heap.size + 1 := size_alloc' _ _
    rw [← hz]
    exact cvar_new _ _ _ _ _ _ _ _
  have HB0 : Hid (Bel w W2) := by rw [← hW2]; exact (HB1.out.alloc _).alloc _
  have HPG : Hid (w1.heap.size + 1 ≠ w1.heap.size ∧ w.heap.size ≤ w1.heap.size) := ⟨by omega, HB1.out.size⟩
  clear hW2 hmk hix r1 r2 HB1
  generalize w1.heap.size + 1 = p6 at K0 HPG ⊢
  generalize w1.heap.size = gC at K0 HI0 HPG ⊢
  go_loopw [30] (fun i wq => ∃ (k : Nat) (cs : List Int), k ≤ n ∧ i = .int .i64 k ∧ cs.length = n ∧ Small cs ∧ CVar wq p6 1 1 n (some ⟨gC, 0, none⟩) n n ∧ IArr wq gC n cs ∧ Bel w wq) (fun i _ => n - (intOf i).toNat)
  case atStart => exact ⟨0, List.replicate n 0, Nat.zero_le _, rfl, List.length_replicate, (fun i => by rw [getD_rep]; decide), K0.out, HI0.out, HB0.out⟩
  case round =>
  clear K0 HI0 HB0
  obtain ⟨k, cs, hk, rfl, hlen, hsm, hcv, hic, hbw⟩ := hrel
  have HLN := Lib.hid hlen
  have HSM := Lib.hid hsm
  have HCV := Lib.hid hcv
  have HIC := Lib.hid hic
  have HBW := Lib.hid hbw
  by_cases hlt : k < n
  · have hki : (k : Int) < n := by omega
    by_cases hm : k < m
    · have hmi : (k : Int) < m := by omega
      obtain ⟨b', off, hao, hcell, hlo, hhi⟩ := HX.out k hm
      have hcv3 := hcv.2.2.2
      have hcu := hic.cell (i := k) (by rw [hlen]; exact hlt) 0
      have hfu := hic.frozen k
      have hcx := hbw.cellv hcell
      have hw := i16_wrap hlo hhi
      obtain ⟨x, hx⟩ : ∃ x, xs k = x := ⟨_, rfl⟩
      rw [hx] at hcx hw
      have HXB : Hid (x.natAbs ≤ 32768) := by unfold Hid; omega
      subst hao
      obtain ⟨wo, rfl⟩ : ∃ wo : World, wo = wr := ⟨_, rfl⟩
      clear hcv hic hbw hlen hsm hcell hlo hhi hx
      go_wp2_with fail
      have c0 : ∀ v : In wo, v.w.cell? ⟨p6, 3, none⟩ = some (.slice (some ⟨gC, 0, none⟩) n n) := In.cellv hcv3
      have c1 : ∀ v : In wo, v.w.cell? ⟨b', off + k, none⟩ = some (.int .i16 x) := In.cellv hcx
      have c2 : ∀ v : In wo, v.w.cell? ⟨gC, k, none⟩ = some (iV (cs.getD k 0)) := In.cellv hcu
      have c3 : ∀ v : In wo, v.w.frozen? ⟨gC, k, none⟩ = false := In.frozen hcu hfu
      refine wp_in_tail 9 (by kernel_rfl) (by kernel_rfl) ?_
      simp only [List.take_succ_cons, List.take_zero, List.drop_succ_cons, List.drop_zero]
      repeat (go_big_quiet_step (fail))
      refine wpQuiet_nil ?_
      intro vq
      have hb := vq.h
      go_wp2_with fail
      go_roundw
      case rel => exact ⟨k + 1, cs.set k x, by omega, by go_num, by rw [List.length_set]; exact HLN.out, small_set HSM.out k x HXB.out, (HCV.out.bel hb).far HPG.out.1 _, ((HIC.out.bel hb).store k x), (HBW.out.trans hb).setCell HPG.out.2 _⟩
      case measure => simp [intOf]; omega
    · have hmi : ¬ (k : Int) < m := by omega
      clear hcv hic hbw hlen hsm
      go_wp2_with fail
      go_roundw
      case rel => exact ⟨k + 1, cs, by omega, by go_num, HLN.out, HSM.out, HCV.out, HIC.out, HBW.out⟩
      case measure => simp [intOf]; omega
  · have hkl : k = n := by omega
    subst hkl
    obtain ⟨x0, x1, x2, x3⟩ := hcv
    obtain ⟨p, hp⟩ : ∃ p, pr = p := ⟨_, rfl⟩
    have HPP : Hid (4611686018427387904 ≤ p ∧ p < 18446744073709551616) := by rw [← hp, pr_eq]; constructor <;> decide
    have HPR : Hid (∀ w : World, Calls Tryz.prog 22 #[] w fun e w' => e = .returned (.int .u64 (p : Nat)) ∧ Bel w w') := by rw [← hp]; exact nprime_any
    clear hic hbw hlen hsm
    go_wp2_with fail
    have HCX : Hid (∀ W : World, Bel wr W → ∀ i, i < k → W.cell? ⟨gC, 0 + i, none⟩ = some (iV (cs.getD i 0))) := fun W hb i hi => by
      rw [Nat.zero_add]; exact hb.cellv (HIC.out.cell (by rw [HLN.out]; exact hi) 0)
    clear x0 x1 x2 x3
    refine (exact_go gC 0 k 1 1 k k cs wr HT.out.s3 HLN.out (HCX.out wr (Bel.refl _))).mono ?_
    rintro e w4 ⟨hex, hb4⟩
    rcases hex with ⟨hno, _⟩ | ⟨_, gA, cA, rfl, hgA, hia⟩
    · exact absurd HSM.out.within hno
    have HIA := Lib.hid hia
    have HB4 := Lib.hid hb4
    clear hia hb4
    go_wp2_with fail
    have K8 : Hid (CVar (w4.alloc (.cells #[.int .i64 1, .int .i64 1, .int .i64 k, .slice (some ⟨gA, 0, none⟩) k cA] 26)) w4.heap.size 1 1 k (some ⟨gA, 0, none⟩) k cA) := cvar_new _ _ _ _ _ _ _ _
    have HB5 : Hid (Bel wr (w4.alloc (.cells #[.int .i64 1, .int .i64 1, .int .i64 k, .slice (some ⟨gA, 0, none⟩) k cA] 26))) := HB4.out.alloc _
    have HA5 : Hid (IArr (w4.alloc (.cells #[.int .i64 1, .int .i64 1, .int .i64 k, .slice (some ⟨gA, 0, none⟩) k cA] 26)) gA cA (autoL 1 1 k k cs)) := HIA.out.alloc _
    clear HB4 HIA
    generalize World.alloc _ _ = w5 at K8 HB5 HA5 ⊢
    generalize w4.heap.size = p8 at K8 ⊢
    refine (HPR.out _).mono ?_
    rintro e w6 ⟨rfl, hb6⟩
    have HB6 := Lib.hid hb6
    obtain ⟨x0, x1, x2, x3⟩ := HCV.out.bel (HB5.out.trans hb6)
    have hpi : decide ((p : Int) < 4611686018427387904) = false := by have := HPP.out.1; rw [decide_eq_false_iff_not]; omega
    clear hb6
    go_wp2_with fail
    clear x0 x1 x2 x3 hpi
    have hb1 : ∀ i, (cs.getD i 0).natAbs < pr := fun i => by have := HSM.out i; rw [pr_eq]; omega
    have hb2' : ∀ i, ((autoL 1 1 k k cs).getD i 0).natAbs ≤ 2 ^ 38 := fun i => by
      by_cases hi : i < k
      · rw [autoL_get _ _ _ _ _ _ hi]; exact auto_small (by omega) HSM.out i
      · rw [List.getD_eq_getElem?_getD, List.getElem?_eq_none (by rw [autoL_len2]; omega)]; decide
    have hb2 : ∀ i, ((autoL 1 1 k k cs).getD i 0).natAbs < pr := fun i => by have := hb2' i; rw [pr_eq]; omega
    have hXY := turned_at HT.out.dv cs hb1 hb2
    have hxlt := resL_lt hb1 k
    have hylt := resL_lt hb2 k
    have hkp : 0 < k := HT.out.1
    have hXlen : (nline 8 (resL pr cs k) (rootN k)).length = k := by rw [nline_length (by rw [resL_length]; omega) (by rw [resL_length]; exact hkp), resL_length]
    have hYlen : (nline 8 (resL pr (autoL 1 1 k k cs) k) (rootN k)).length = k := by rw [nline_length (by rw [resL_length]; omega) (by rw [resL_length]; exact hkp), resL_length]
    have hXlt := fun i => all_getD (nline_lt 8 (resL pr cs k) (rootN k)) i
    have hYlt := fun i => all_getD (nline_lt 8 (resL pr (autoL 1 1 k k cs) k) (rootN k)) i
    have HLX : Hid (∀ (g c : Nat) (W : World), (∀ i, i < k → W.cell? ⟨g, 0 + i, none⟩ = some (nV ((resL pr cs k).getD i 0))) → Calls Tryz.prog 23 #[.slice (some ⟨g, 0, none⟩) k c] W fun e w' =>
      (∃ g c, e = .returned (.tuple #[.slice (some ⟨g, 0, none⟩) k c, .int .i64 0]) ∧ W.heap.size ≤ g ∧ NArr w' g c (nline 8 (resL pr cs k) (rootN k))) ∧ Bel W w') := fun g c W h => nLine_any g 0 c k _ W HT.out.dv (resL_length _ _ _) hxlt h
    have HLY : Hid (∀ (g c : Nat) (W : World), (∀ i, i < k → W.cell? ⟨g, 0 + i, none⟩ = some (nV ((resL pr (autoL 1 1 k k cs) k).getD i 0))) → Calls Tryz.prog 23 #[.slice (some ⟨g, 0, none⟩) k c] W fun e w' =>
      (∃ g c, e = .returned (.tuple #[.slice (some ⟨g, 0, none⟩) k c, .int .i64 0]) ∧ W.heap.size ≤ g ∧ NArr w' g c (nline 8 (resL pr (autoL 1 1 k k cs) k) (rootN k))) ∧ Bel W w') := fun g c W h => nLine_any g 0 c k _ W HT.out.dv (resL_length _ _ _) hylt h
    generalize nline 8 (resL pr cs k) (rootN k) = X at *
    generalize nline 8 (resL pr (autoL 1 1 k k cs) k) (rootN k) = Y at *
    have HXY : Hid (∀ j, j < k → Y.getD j 0 = X.getD j 0 * X.getD ((k - j) % k) 0 % p) := by rw [← hp]; exact hXY
    have HXB : Hid (X.length = k ∧ Y.length = k ∧ (∀ i, X.getD i 0 < p) ∧ ∀ i, Y.getD i 0 < p) := by rw [← hp]; exact ⟨hXlen, hYlen, hXlt, hYlt⟩
    rw [hp] at HLX HLY
    have HS2 : Hid (∀ i, (cs.getD i 0).natAbs ≤ 4611686018427387903) := fun i => by have := HSM.out i; omega
    have HS3 : Hid (∀ i, ((autoL 1 1 k k cs).getD i 0).natAbs ≤ 4611686018427387903) := fun i => by have := hb2' i; omega
    clear hb1 hb2 hb2' hXY hxlt hylt hXlen hYlen hXlt hYlt hp
    refine (resline_any p gC 0 k k cs w6 HPP.out hkp (by omega) HS2.out (HCX.out w6 (HB5.out.trans HB6.out))).mono ?_
    rintro e w7 ⟨⟨g1, c1, rfl, hg1, ha1⟩, hb7⟩
    have hcl : ∀ i, i < k → w7.cell? ⟨g1, 0 + i, none⟩ = some (nV ((resL p cs k).getD i 0)) := fun i hi => by
      rw [Nat.zero_add]; exact ha1.cell (by rw [resL_length]; exact hi) 0
    have HC1 := Lib.hid (HLX.out g1 c1 w7 hcl)
    have HB7 := Lib.hid hb7
    clear hg1 ha1 hcl hb7 HLX
    go_wp2_with fail
    refine HC1.out.mono ?_
    rintro e w8 ⟨⟨gx, c2, rfl, hg2, ha2⟩, hb8⟩
    have HX2 := Lib.hid ha2
    have HB8 := Lib.hid ((HB6.out.trans HB7.out).trans hb8)
    obtain ⟨x0, x1, x2, x3⟩ := K8.out.bel HB8.out
    clear hg2 ha2 hb8 HC1 HB6 HB7
    go_wp2_with fail
    clear x0 x1 x2 x3
    have hcy : ∀ i, i < k → w8.cell? ⟨gA, 0 + i, none⟩ = some (iV ((autoL 1 1 k k cs).getD i 0)) := fun i hi => by
      rw [Nat.zero_add]; exact HB8.out.cellv (HA5.out.cell (by rw [autoL_len2]; exact hi) 0)
    refine (resline_any p gA 0 cA k (autoL 1 1 k k cs) w8 HPP.out hkp (by omega) HS3.out hcy).mono ?_
    clear hcy
    rintro e w9 ⟨⟨g3, c3, rfl, hg3, ha3⟩, hb9⟩
    have hcl : ∀ i, i < k → w9.cell? ⟨g3, 0 + i, none⟩ = some (nV ((resL p (autoL 1 1 k k cs) k).getD i 0)) := fun i hi => by
      rw [Nat.zero_add]; exact ha3.cell (by rw [resL_length]; exact hi) 0
    have HC2 := Lib.hid (HLY.out g3 c3 w9 hcl)
    have HB9 := Lib.hid hb9
    clear hg3 ha3 hcl hb9 HLY
    go_wp2_with fail
    refine HC2.out.mono ?_
    rintro e w10 ⟨⟨gy, c4, rfl, hg4, ha4⟩, hb10⟩
    have HY4 := Lib.hid ha4
    have HX4 := Lib.hid (HX2.out.bel (HB9.out.trans hb10))
    have HB10 := Lib.hid ((HBW.out.trans HB5.out).trans (HB8.out.trans (HB9.out.trans hb10)))
    clear hg4 ha4 hb10 HC2 HX2 HB8 HB9
    go_wp2_with fail
    go_loopw [93] (fun i wq => ∃ j : Nat, j ≤ k ∧ i = .int .i64 j ∧ Bel w10 wq) (fun i _ => k - (intOf i).toNat)
    case atStart => exact ⟨0, Nat.zero_le _, rfl, Bel.refl _⟩
    case round =>
    obtain ⟨j, hj, rfl, hbq⟩ := hrel
    by_cases hjk : j < k
    · have hji : (j : Int) < k := by omega
      obtain ⟨hXl, hYl, hXp, hYp⟩ := HXB.out
      have hxy := HXY.out j hjk
      obtain ⟨q, hq⟩ : ∃ q, (k - j) % k = q := ⟨_, rfl⟩
      have hql : q < k := by rw [← hq]; exact Nat.mod_lt _ hkp
      rw [hq] at hxy
      have t1 : IntKind.i64.wrap ((k : Int) - (j : Int)) = ((k - j : Nat) : Int) := by
        rw [show (k : Int) - (j : Int) = ((k - j : Nat) : Int) by omega]; exact IntWalk.i64_in _ (by omega)
      have t2 : ((k - j : Nat) : Int).tmod (k : Int) = (q : Int) := by
        rw [Int.tmod_eq_emod_of_nonneg (Int.natCast_nonneg _), ← hq]; exact (Int.natCast_emod _ _).symm
      have t3 : IntKind.i64.wrap (q : Int) = (q : Int) := IntWalk.i64_in _ (by omega)
      have hqi : (q : Int) < k := by omega
      have hkne : ¬ k = 0 := by omega
      have hx1 := HX4.out.cell (i := j) (by rw [hXl]; exact hjk) 0
      have hx2 := HX4.out.cell (i := q) (by rw [hXl]; exact hql) 0
      have hy1 := HY4.out.cell (i := j) (by rw [hYl]; exact hjk) 0
      have lx := hXp j
      have ly := hYp j
      have HT2 := Lib.hid (fun W => times_any (X.getD j 0) (X.getD q 0) p (hXp j) (hXp q) HPP.out.2 W)
      rw [← hxy] at HT2
      clear hxy hXp hYp
      generalize X.getD j 0 = xj at *
      generalize X.getD q 0 = xq at *
      generalize Y.getD j 0 = yj at *
      have g0 : decide ((p : Int) ≤ yj) = false := by rw [decide_eq_false_iff_not]; omega
      have g1 : decide ((p : Int) ≤ xj) = false := by rw [decide_eq_false_iff_not]; omega
      have g2 : decide (p ≤ yj) = false := by rw [decide_eq_false_iff_not]; omega
      have g3 : decide (p ≤ xj) = false := by rw [decide_eq_false_iff_not]; omega
      have g4 : ((yj : Int) != (yj : Int)) = false := by simp
      have g5 : (yj != yj) = false := by simp
      have HBQ := Lib.hid hbq
      obtain ⟨wo, rfl⟩ : ∃ wo : World, wo = wr := ⟨_, rfl⟩
      have d0 : ∀ v : In wo, v.w.cell? ⟨gx, j, none⟩ = some (nV xj) := In.cellv (hbq.cellv hx1)
      have d1 : ∀ v : In wo, v.w.cell? ⟨gx, q, none⟩ = some (nV xq) := In.cellv (hbq.cellv hx2)
      have d2 : ∀ v : In wo, v.w.cell? ⟨gy, j, none⟩ = some (nV yj) := In.cellv (hbq.cellv hy1)
      generalize k - j = kj at *
      clear hbq hx1 hx2 hy1 lx ly hq
      go_wp2_with fail
      refine wp_in (by kernel_rfl) (by kernel_rfl) ?_
      repeat (go_big_quiet_step ((go_at_call 25; exact Calls.in_of (HT2.out _))))
      refine wpQuiet_nil ?_
      intro vq
      have HV := Lib.hid vq.h
      obtain ⟨wu, hwu⟩ : ∃ wu, vq.w = wu := ⟨_, rfl⟩
      rw [hwu] at HV ⊢
      clear hwu d0 d1 d2 g0 g1 g2 g3 g4 g5 t1 t2 t3
      go_wp2_with fail
      go_roundw
      case rel => exact ⟨j + 1, by omega, by go_num, HBQ.out.trans HV.out⟩
      case measure => simp [intOf]; omega
    · have hjl : j = k := by omega
      have HBQ := Lib.hid hbq
      clear hbq
      subst hjl
      go_wp2_with fail
      go_ret
      exact ⟨rfl, HB10.out.trans HBQ.out⟩

end Go.Proofs.YtehiabiahipkhaaGreat
