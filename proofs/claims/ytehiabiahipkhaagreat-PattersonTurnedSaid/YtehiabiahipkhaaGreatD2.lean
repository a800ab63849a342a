/-
  The walk of patterson.top (printed by gen_sd.py).
-/
import Derived.Test.YtehiabiahipkhaaGreatB5
namespace Go.Proofs.YtehiabiahipkhaaGreat
open Go.RowKit
set_option linter.unusedVariables false
set_option linter.unusedSimpArgs false

/-- The number of a neighbour: step e of 27. -/
def nbN (n0 n1 n2 i e : Nat) : Nat := ((i / n2 / n1 + e / 9 + (n0 - 1)) % n0 * n1 + (i / n2 % n1 + e / 3 % 3 + (n1 - 1)) % n1) * n2 + (i % n2 + e % 3 + (n2 - 1)) % n2
theorem nbN_lt {n0 n1 n2 L : Nat} (h : P3 n0 n1 n2 L) (i e : Nat) : nbN n0 n1 n2 i e < L := by
  rw [← h.p]
  exact place3_lt _ _ _ _ _ _ (Nat.mod_lt _ h.a.1) (Nat.mod_lt _ h.b.1) (Nat.mod_lt _ h.c.1)
theorem nb_mod (x d n : Nat) (h : 1 ≤ n) : ((x : Int) + (d : Int) - 1) % (n : Int) = (((x + d + (n - 1)) % n : Nat) : Int) := by
  rw [Int.natCast_emod, show ((x + d + (n - 1) : Nat) : Int) = ((x : Int) + (d : Int) - 1) + (n : Int) by omega, Int.add_emod_right]
/-- Does the number at i stand against that at j? -/
def stands (cs : List Int) (i j : Nat) : Prop := j = i ∨ ¬ (cs.getD i 0 < cs.getD j 0 ∨ (j < i ∧ cs.getD i 0 = cs.getD j 0))
instance stands_dec (cs : List Int) (i j : Nat) : Decidable (stands cs i j) := by unfold stands; exact inferInstance
/-- Is it a peak? -/
def isTop (n0 n1 n2 : Nat) (cs : List Int) (i : Nat) : Prop := ∀ e, e < 27 → stands cs i (nbN n0 n1 n2 i e)
instance isTop_dec (n0 n1 n2 : Nat) (cs : List Int) (i : Nat) : Decidable (isTop n0 n1 n2 cs i) := by unfold isTop; exact inferInstance

set_option maxHeartbeats 8000000 in
set_option maxRecDepth 100000 in
theorem top_any (b off cap n0 n1 n2 L i : Nat) (cs : List Int) (w : World) (hs : P3 n0 n1 n2 L) (hl : cs.length = L) (hi : i < L)
    (hx : ∀ i, i < L → w.cell? ⟨b, off + i, none⟩ = some (iV (cs.getD i 0))) :
    Calls Tryz.prog 35 #[countV n0 n1 n2 (some ⟨b, off, none⟩) L cap, .int .i64 i] w fun e w' => e = .returned (.bool (decide (isTop n0 n1 n2 cs i))) ∧ Bel w w' := by
  have HS := Lib.hid hs
  have HX := Lib.hid hx
  have hL := hs.l
  obtain ⟨l0, l1, l2, _⟩ := place_parts hs hi
  have HPL := Lib.hid (fun W => place_any n0 n1 n2 i W hs.b.1 hs.c.1 hs.b.2 hs.c.2 (by omega))
  have HB : Hid (Bel w (w.alloc (.cells #[.int .i64 n0, .int .i64 n1, .int .i64 n2, .slice (some ⟨b, off, none⟩) L cap] 26))) := (Bel.refl w).alloc _
  have K1 : Hid (CVar (w.alloc (.cells #[.int .i64 n0, .int .i64 n1, .int .i64 n2, .slice (some ⟨b, off, none⟩) L cap] 26)) w.heap.size n0 n1 n2 (some ⟨b, off, none⟩) L cap) := cvar_new w _ _ _ _ _ _ _
  have HT : Hid (∀ e, nbN n0 n1 n2 i e = ((i / n2 / n1 + e / 9 + (n0 - 1)) % n0 * n1 + (i / n2 % n1 + e / 3 % 3 + (n1 - 1)) % n1) * n2 + (i % n2 + e % 3 + (n2 - 1)) % n2) := fun e => rfl
  have y0 : i / n2 / n1 ≤ 192 := by have := hs.a.2; omega
  have y1 : i / n2 % n1 ≤ 192 := by have := hs.b.2; omega
  have y2 : i % n2 ≤ 192 := by have := hs.c.2; omega
  clear hs hl hx l0 l1 l2
  generalize i / n2 / n1 = v0 at *
  generalize i / n2 % n1 = v1 at *
  generalize i % n2 = v2 at *
  go_enter Tryz.func35, Tryz.ntmps35
  go_wp2_with fail
  generalize World.alloc _ _ = W at HB K1 ⊢
  have hp1l : w.heap.size < W.heap.size := by simpa using World.block_lt_of_cell? _ _ K1.out.1
  generalize w.heap.size = p1 at K1 hp1l ⊢
  refine (HPL.out _).mono ?_
  rintro e w3 ⟨rfl, hb3⟩
  have HB3 := Lib.hid hb3
  clear hb3
  go_wp2_with fail
  have HB4 : Hid (Bel W (w3.alloc (.cells #[.int .i64 v0, .int .i64 v1, .int .i64 v2] 23))) := HB3.out.alloc _
  have HV4 : Hid (V3 (w3.alloc (.cells #[.int .i64 v0, .int .i64 v1, .int .i64 v2] 23)) w3.heap.size v0 v1 v2) := v3_new _ _ _ _ _
  generalize World.alloc _ _ = w4 at HB4 HV4 ⊢
  generalize w3.heap.size = p5 at HV4 ⊢
  clear HB3 HPL
  go_loopw [12] (fun iv wr => ∃ e : Nat, e ≤ 27 ∧ iv = .int .i64 e ∧ (∀ d, d < e → stands cs i (nbN n0 n1 n2 i d)) ∧ V3 wr p5 v0 v1 v2 ∧ Bel W wr) (fun iv _ => 27 - (intOf iv).toNat)
  case atStart => exact ⟨0, by omega, rfl, fun d hd => absurd hd (by omega), HV4.out, HB4.out⟩
  case round =>
    clear HV4 HB4
    obtain ⟨e, he, rfl, hal, hv, hbw⟩ := hrel
    by_cases hlt : e < 27
    · have h27 : (e : Int) < 27 := by omega
      have hjl : nbN n0 n1 n2 i e < L := nbN_lt HS.out i e
      have HJ := Lib.hid (HT.out e)
      obtain ⟨d0, hd0⟩ : ∃ d, e / 9 = d := ⟨_, rfl⟩
      obtain ⟨q3, hq3⟩ : ∃ d, e / 3 = d := ⟨_, rfl⟩
      obtain ⟨d1, hd1⟩ : ∃ d, q3 % 3 = d := ⟨_, rfl⟩
      obtain ⟨d2, hd2⟩ : ∃ d, e % 3 = d := ⟨_, rfl⟩
      rw [hd0, hq3, hd1, hd2] at HJ
      have d0l : d0 ≤ 2 := by omega
      have d1l : d1 ≤ 2 := by omega
      have d2l : d2 ≤ 2 := by omega
      have t1 : (e : Int).tdiv 9 = (d0 : Int) := by rw [Int.tdiv_eq_ediv_of_nonneg (by omega)]; omega
      have t2 : (e : Int).tdiv 3 = (q3 : Int) := by rw [Int.tdiv_eq_ediv_of_nonneg (by omega)]; omega
      have t3 : (q3 : Int).tmod 3 = (d1 : Int) := by rw [Int.tmod_eq_emod_of_nonneg (by omega)]; omega
      have t4 : (e : Int).tmod 3 = (d2 : Int) := by rw [Int.tmod_eq_emod_of_nonneg (by omega)]; omega
      have t1' : (e : Int) / 9 = (d0 : Int) := by omega
      have t2' : (e : Int) / 3 = (q3 : Int) := by omega
      have t3' : (q3 : Int) % 3 = (d1 : Int) := by omega
      have t4' : (e : Int) % 3 = (d2 : Int) := by omega
      have w1 : IntKind.i64.wrap (d0 : Int) = (d0 : Int) := IntWalk.i64_in _ (by omega)
      have w2 : IntKind.i64.wrap (q3 : Int) = (q3 : Int) := IntWalk.i64_in _ (by omega)
      have w3' : IntKind.i64.wrap (d1 : Int) = (d1 : Int) := IntWalk.i64_in _ (by omega)
      have w4' : IntKind.i64.wrap (d2 : Int) = (d2 : Int) := IntWalk.i64_in _ (by omega)
      have s0 : IntKind.i64.wrap ((v0 : Int) + (d0 : Int)) = (v0 : Int) + (d0 : Int) := IntWalk.i64_in _ (by omega)
      have s1 : IntKind.i64.wrap ((v1 : Int) + (d1 : Int)) = (v1 : Int) + (d1 : Int) := IntWalk.i64_in _ (by omega)
      have s2 : IntKind.i64.wrap ((v2 : Int) + (d2 : Int)) = (v2 : Int) + (d2 : Int) := IntWalk.i64_in _ (by omega)
      have r0 : IntKind.i64.wrap ((v0 : Int) + (d0 : Int) - 1) = (v0 : Int) + (d0 : Int) - 1 := IntWalk.i64_in _ (by omega)
      have r1 : IntKind.i64.wrap ((v1 : Int) + (d1 : Int) - 1) = (v1 : Int) + (d1 : Int) - 1 := IntWalk.i64_in _ (by omega)
      have r2 : IntKind.i64.wrap ((v2 : Int) + (d2 : Int) - 1) = (v2 : Int) + (d2 : Int) - 1 := IntWalk.i64_in _ (by omega)
      have HWI := Lib.hid (fun W => within_any n0 n1 n2 ((v0 : Int) + (d0 : Int) - 1) ((v1 : Int) + (d1 : Int) - 1) ((v2 : Int) + (d2 : Int) - 1) W ⟨HS.out.a.1, HS.out.a.2⟩ ⟨HS.out.b.1, HS.out.b.2⟩ ⟨HS.out.c.1, HS.out.c.2⟩ (by omega) (by omega) (by omega))
      rw [nb_mod v0 d0 n0 HS.out.a.1, nb_mod v1 d1 n1 HS.out.b.1, nb_mod v2 d2 n2 HS.out.c.1] at HWI
      have HNU := Lib.hid (fun W => number_any ((v0 + d0 + (n0 - 1)) % n0) ((v1 + d1 + (n1 - 1)) % n1) ((v2 + d2 + (n2 - 1)) % n2) n0 n1 n2 W (Nat.mod_lt _ HS.out.a.1) (Nat.mod_lt _ HS.out.b.1) (Nat.mod_lt _ HS.out.c.1) HS.out.a.2 HS.out.b.2 HS.out.c.2)
      rw [← HJ.out] at HNU
      have HST : Hid (stands cs i (nbN n0 n1 n2 i e) ∨ ¬ stands cs i (nbN n0 n1 n2 i e)) := Classical.em _
      have HSD : Hid (stands cs i (nbN n0 n1 n2 i e) = (nbN n0 n1 n2 i e = i ∨ ¬ (cs.getD i 0 < cs.getD (nbN n0 n1 n2 i e) 0 ∨ (nbN n0 n1 n2 i e < i ∧ cs.getD i 0 = cs.getD (nbN n0 n1 n2 i e) 0)))) := rfl
      have hcj := (HB.out.trans hbw).cellv (HX.out _ hjl)
      have hci := (HB.out.trans hbw).cellv (HX.out _ hi)
      clear hd0 hq3 hd1 hd2 d0l d1l d2l HST
      have HE : Hid (nbN n0 n1 n2 i e = nbN n0 n1 n2 i e) := rfl
      obtain ⟨j, hj⟩ : ∃ j, nbN n0 n1 n2 i e = j := ⟨_, rfl⟩
      have HJJ := Lib.hid hj
      rw [hj] at HSD HNU hjl hcj
      clear HJ hj HE
      generalize (v0 + d0 + (n0 - 1)) % n0 = a0 at *
      generalize (v1 + d1 + (n1 - 1)) % n1 = a1 at *
      generalize (v2 + d2 + (n2 - 1)) % n2 = a2 at *
      obtain ⟨xi, hxi⟩ : ∃ x, cs.getD i 0 = x := ⟨_, rfl⟩
      obtain ⟨xj, hxj⟩ : ∃ x, cs.getD j 0 = x := ⟨_, rfl⟩
      rw [hxi, hxj] at HSD
      rw [hxi] at hci
      rw [hxj] at hcj
      clear hxi hxj
      have HV := Lib.hid hv
      have HBW := Lib.hid hbw
      have HAL := Lib.hid hal
      have HK := Lib.hid (K1.out.bel hbw)
      obtain ⟨wo, rfl⟩ : ∃ wo : World, wo = wr := ⟨_, rfl⟩
      clear hv hbw hal
      go_wp2_with fail
      have c0 : ∀ v : In wo, v.w.cell? ⟨p1, 0, none⟩ = some (.int .i64 n0) := In.cellv HK.out.1
      have c1 : ∀ v : In wo, v.w.cell? ⟨p1, 1, none⟩ = some (.int .i64 n1) := In.cellv HK.out.2.1
      have c2 : ∀ v : In wo, v.w.cell? ⟨p1, 2, none⟩ = some (.int .i64 n2) := In.cellv HK.out.2.2.1
      have c5 : ∀ v : In wo, v.w.cell? ⟨p5, 0, none⟩ = some (.int .i64 v0) := In.cellv HV.out.1
      have c6 : ∀ v : In wo, v.w.cell? ⟨p5, 1, none⟩ = some (.int .i64 v1) := In.cellv HV.out.2.1
      have c7 : ∀ v : In wo, v.w.cell? ⟨p5, 2, none⟩ = some (.int .i64 v2) := In.cellv HV.out.2.2
      refine wp_in (by kernel_rfl) (by kernel_rfl) ?_
      repeat (go_big_quiet_step (first | (go_at_call 31; exact Calls.in_of (HWI.out _)) | (go_at_call 30; exact Calls.in_of (HNU.out _))))
      refine wpQuiet_nil ?_
      intro vq
      have HQ := Lib.hid vq.h
      have HV2 := Lib.hid (HV.out.bel vq.h)
      have HBW2 := Lib.hid (HBW.out.trans vq.h)
      have hci2 := vq.h.cellv hci
      have hcj2 := vq.h.cellv hcj
      have x3 := vq.h.cellv HK.out.2.2.2
      have hil : (i : Int) < L := by omega
      have hjl2 : (j : Int) < L := by omega
      clear c0 c1 c2 c5 c6 c7 hci hcj t1 t2 t3 t4 t1' t2' t3' t4' w1 w2 w3' w4' s0 s1 s2 r0 r1 r2 HWI HNU HV HBW HK
      generalize vq.w = wo2 at HQ HV2 HBW2 hci2 hcj2 x3 ⊢
      have e3 : ∀ v : In wo2, v.w.cell? ⟨p1, 3, none⟩ = some (.slice (some ⟨b, off, none⟩) L cap) := In.cellv x3
      have ei : ∀ v : In wo2, v.w.cell? ⟨b, off + i, none⟩ = some (iV xi) := In.cellv hci2
      have ej : ∀ v : In wo2, v.w.cell? ⟨b, off + j, none⟩ = some (iV xj) := In.cellv hcj2
      have f2 : IntKind.i64.wrap ((e : Int) + 1) = (e : Int) + 1 := IntWalk.i64_in _ (by omega)
      by_cases hji : j = i
      · have HJE := Lib.hid hji
        have g1 : ((j : Int) != (i : Int)) = false := by simp [hji]
        have g2 : ((j : Int) == (i : Int)) = true := by simp [hji]
        clear hji
        have HG : Hid (stands cs i (nbN n0 n1 n2 i e)) := by unfold Hid; rw [HJJ.out, HSD.out]; exact Or.inl HJE.out
        go_wp2_with fail
        refine wp_in (by kernel_rfl) (by kernel_rfl) ?_
        repeat (go_big_quiet_step (fail))
        refine wpQuiet_nil ?_
        intro vr
        have HR := Lib.hid vr.h
        go_wp2_with fail
        go_roundw
        case rel =>
          refine ⟨e + 1, by omega, by go_num, fun d hd => ?_, HV2.out.bel HR.out, HBW2.out.trans HR.out⟩
          by_cases hde : d < e
          · exact HAL.out d hde
          · obtain rfl : d = e := by omega
            exact HG.out
        case measure => simp [intOf]; omega
      · have HNE := Lib.hid hji
        have g1 : ((j : Int) != (i : Int)) = true := by simp; omega
        have g2 : ((j : Int) == (i : Int)) = false := by simp; omega
        clear hji
        by_cases hlx : xi < xj
        · have HLX := Lib.hid hlx
          have g3 : decide (xi < xj) = true := decide_eq_true hlx
          clear hlx
          have HG : Hid (decide (isTop n0 n1 n2 cs i) = false) := by
            refine decide_eq_false fun h => ?_
            have h' := h e hlt
            rw [HJJ.out, HSD.out] at h'
            rcases h' with h' | h'
            · exact HNE.out h'
            · exact h' (Or.inl HLX.out)
          go_wp2_with fail
          refine wp_in (by kernel_rfl) (by kernel_rfl) ?_
          repeat (go_big_quiet_step (fail))
          refine wpQuiet_nil ?_
          intro vr
          have HR := Lib.hid (HB.out.trans (HBW2.out.trans vr.h))
          go_wp2_with fail
          go_ret
          rw [HG.out]
          exact ⟨rfl, HR.out⟩
        · have HLX := Lib.hid hlx
          have g3 : decide (xi < xj) = false := decide_eq_false hlx
          clear hlx
          by_cases hjl3 : j < i
          · have HJL := Lib.hid hjl3
            have g4 : decide ((j : Int) < (i : Int)) = true := decide_eq_true (by omega)
            have g4n : decide (j < i) = true := decide_eq_true hjl3
            clear hjl3
            by_cases hxe : xi = xj
            · have HXE := Lib.hid hxe
              have g5 : (xi == xj) = true := by simp [hxe]
              clear hxe
              have HG : Hid (decide (isTop n0 n1 n2 cs i) = false) := by
                refine decide_eq_false fun h => ?_
                have h' := h e hlt
                rw [HJJ.out, HSD.out] at h'
                rcases h' with h' | h'
                · exact HNE.out h'
                · exact h' (Or.inr ⟨HJL.out, HXE.out⟩)
              go_wp2_with fail
              refine wp_in (by kernel_rfl) (by kernel_rfl) ?_
              repeat (go_big_quiet_step (fail))
              refine wpQuiet_nil ?_
              intro vr
              have HR := Lib.hid (HB.out.trans (HBW2.out.trans vr.h))
              go_wp2_with fail
              go_ret
              rw [HG.out]
              exact ⟨rfl, HR.out⟩
            · have HXE := Lib.hid hxe
              have g5 : (xi == xj) = false := by simp [hxe]
              clear hxe
              have HG : Hid (stands cs i (nbN n0 n1 n2 i e)) := by unfold Hid; rw [HJJ.out, HSD.out]; exact Or.inr fun h => by rcases h with h | ⟨_, h⟩; exact HLX.out h; exact HXE.out h
              go_wp2_with fail
              refine wp_in (by kernel_rfl) (by kernel_rfl) ?_
              repeat (go_big_quiet_step (fail))
              refine wpQuiet_nil ?_
              intro vr
              have HR := Lib.hid vr.h
              go_wp2_with fail
              go_roundw
              case rel =>
                refine ⟨e + 1, by omega, by go_num, fun d hd => ?_, HV2.out.bel HR.out, HBW2.out.trans HR.out⟩
                by_cases hde : d < e
                · exact HAL.out d hde
                · obtain rfl : d = e := by omega
                  exact HG.out
              case measure => simp [intOf]; omega
          · have HJL := Lib.hid hjl3
            have g4 : decide ((j : Int) < (i : Int)) = false := decide_eq_false (by omega)
            have g4n : decide (j < i) = false := decide_eq_false hjl3
            clear hjl3
            have HG : Hid (stands cs i (nbN n0 n1 n2 i e)) := by unfold Hid; rw [HJJ.out, HSD.out]; exact Or.inr fun h => by rcases h with h | ⟨h, _⟩; exact HLX.out h; exact HJL.out h
            go_wp2_with fail
            refine wp_in (by kernel_rfl) (by kernel_rfl) ?_
            repeat (go_big_quiet_step (fail))
            refine wpQuiet_nil ?_
            intro vr
            have HR := Lib.hid vr.h
            go_wp2_with fail
            go_roundw
            case rel =>
              refine ⟨e + 1, by omega, by go_num, fun d hd => ?_, HV2.out.bel HR.out, HBW2.out.trans HR.out⟩
              by_cases hde : d < e
              · exact HAL.out d hde
              · obtain rfl : d = e := by omega
                exact HG.out
            case measure => simp [intOf]; omega
    · have h27 : e = 27 := by omega
      subst h27
      have HG : Hid (decide (isTop n0 n1 n2 cs i) = true) := decide_eq_true hal
      have HBW := Lib.hid (HB.out.trans hbw)
      clear hal hv hbw
      go_wp2_with fail
      go_ret
      rw [HG.out]
      exact ⟨rfl, HBW.out⟩

end Go.Proofs.YtehiabiahipkhaaGreat
