/-
  The walk of facetref23.exact.
  patterson.Exact and facetref23.DocExact, whatever they are given.
-/
import Derived.Test.YtehiabiahipkhaaGreatB3
namespace Go.Proofs.YtehiabiahipkhaaGreat
open Go.RowKit
set_option linter.unusedVariables false
set_option linter.unusedSimpArgs false

/-- The sums over the first k places. -/
def partS (n0 n1 n2 : Nat) (cs : List Int) (k u : Nat) : Int := isum (fun i => cs.getD i 0 * cs.getD (movN n0 n1 n2 i u) 0) k
/-- The lists of sums: the first j of them are a place further. -/
def partL (n0 n1 n2 L : Nat) (cs : List Int) (k j : Nat) : List Int := (List.range L).map fun u => if u < j then partS n0 n1 n2 cs (k + 1) u else partS n0 n1 n2 cs k u
theorem partL_length (n0 n1 n2 L : Nat) (cs : List Int) (k j : Nat) : (partL n0 n1 n2 L cs k j).length = L := by simp [partL]
theorem partL_zero (n0 n1 n2 L : Nat) (cs : List Int) : partL n0 n1 n2 L cs 0 0 = List.replicate L 0 := by
  apply List.ext_getElem?; intro i
  by_cases hi : i < L <;> simp [partL, hi, partS, isum]
theorem partL_next (n0 n1 n2 L : Nat) (cs : List Int) (k : Nat) : partL n0 n1 n2 L cs k L = partL n0 n1 n2 L cs (k + 1) 0 := by
  apply List.ext_getElem?; intro i
  by_cases hi : i < L <;> simp [partL, hi]
theorem partL_skip (n0 n1 n2 L : Nat) (cs : List Int) (k : Nat) (h : cs.getD k 0 = 0) : partL n0 n1 n2 L cs k 0 = partL n0 n1 n2 L cs (k + 1) 0 := by
  have e : ∀ u, partS n0 n1 n2 cs (k + 1) u = partS n0 n1 n2 cs k u := fun u => by
    show isum _ k + cs.getD k 0 * _ = isum _ k
    rw [h]; omega
  apply List.ext_getElem?; intro i
  by_cases hi : i < L <;> simp [partL, hi, e]
theorem partL_get (n0 n1 n2 L : Nat) (cs : List Int) (k j : Nat) (hj : j < L) : (partL n0 n1 n2 L cs k j).getD j 0 = partS n0 n1 n2 cs k j := by simp [partL, hj]
theorem partL_set (n0 n1 n2 L : Nat) (cs : List Int) (k j : Nat) : (partL n0 n1 n2 L cs k j).set j (partS n0 n1 n2 cs (k + 1) j) = partL n0 n1 n2 L cs k (j + 1) := by
  apply List.ext_getElem?; intro i
  simp only [partL, List.getElem?_set, List.length_map, List.length_range, List.getElem?_map]
  by_cases hi : i < L
  · by_cases hij : j = i
    · subst hij; simp [hi]
    · simp [hij, hi, show (i < j + 1) = (i < j) by simp; omega]
  · by_cases hij : j = i
    · subst hij; simp [hi]
    · simp [hij, hi]
theorem partL_all (n0 n1 n2 L : Nat) (cs : List Int) : partL n0 n1 n2 L cs L 0 = autoL n0 n1 n2 L cs := by
  apply List.ext_getElem?; intro i
  by_cases hi : i < L <;> simp [partL, autoL, autoS, partS, hi]

/-- What facetref23.number makes of a place that is moved. -/
theorem movN_int (n0 n1 n2 i u : Nat) :
    ((((i / (n1 * n2) : Nat) : Int) + ((u / (n1 * n2) : Nat) : Int)) % (n0 : Int) * (n1 : Int) + (((i / n2 % n1 : Nat) : Int) + ((u / n2 % n1 : Nat) : Int)) % (n1 : Int)) * (n2 : Int) + (((i % n2 : Nat) : Int) + ((u % n2 : Nat) : Int)) % (n2 : Int) = ((movN n0 n1 n2 i u : Nat) : Int) := by
  unfold movN
  have e : ∀ x, x / (n1 * n2) = x / n2 / n1 := fun x => by rw [Nat.mul_comm, Nat.div_div_eq_div_mul]
  rw [e, e]
  simp only [Int.natCast_add, Int.natCast_mul, Int.natCast_emod]

set_option maxHeartbeats 8000000 in
set_option maxRecDepth 100000 in
theorem rexact_any (b off cap n0 n1 n2 L : Nat) (cs : List Int) (w : World) (hs : P3 n0 n1 n2 L) (hl : cs.length = L) (hw : Within cs)
    (hx : ∀ i, i < L → w.cell? ⟨b, off + i, none⟩ = some (iV (cs.getD i 0))) :
    Calls Tryz.prog 34 #[countV n0 n1 n2 (some ⟨b, off, none⟩) L cap] w fun e w' =>
      (∃ g c, e = .returned (countV n0 n1 n2 (some ⟨g, 0, none⟩) L c) ∧ w.heap.size ≤ g ∧ IArr w' g c (autoL n0 n1 n2 L cs)) ∧ Bel w w' := by
  have HS := Lib.hid hs
  have HL := Lib.hid hl
  have HW := Lib.hid hw
  have HX := Lib.hid hx
  have hL := hs.l
  clear hs hl hw hx
  go_enter Tryz.func34, Tryz.ntmps34
  go_wp2_with fail
  have HB : Hid (Bel w ((w.alloc (.cells #[.int .i64 n0, .int .i64 n1, .int .i64 n2, .slice (some ⟨b, off, none⟩) L cap] 26)).alloc (.cells #[.int .i64 0, .int .i64 0, .int .i64 0, .slice none 0 0] 26))) := ((Bel.refl w).alloc _).alloc _
  have z1 : (w.alloc (.cells #[.int .i64 n0, .int .i64 n1, .int .i64 n2, .slice (some ⟨b, off, none⟩) L cap] 26)).heap.size = w.heap.size + 1 := size_alloc' _ _
  have K4 : Hid (R4 ((w.alloc (.cells #[.int .i64 n0, .int .i64 n1, .int .i64 n2, .slice (some ⟨b, off, none⟩) L cap] 26)).alloc (.cells #[.int .i64 0, .int .i64 0, .int .i64 0, .slice none 0 0] 26)) (w.heap.size + 1)) := by
    rw [← z1]; exact r4_new _ _ _ _ _ _
  have K1 : Hid (CVar ((w.alloc (.cells #[.int .i64 n0, .int .i64 n1, .int .i64 n2, .slice (some ⟨b, off, none⟩) L cap] 26)).alloc (.cells #[.int .i64 0, .int .i64 0, .int .i64 0, .slice none 0 0] 26)) w.heap.size n0 n1 n2 (some ⟨b, off, none⟩) L cap) := (cvar_new w _ _ _ _ _ _ _).bel ((Bel.refl _).alloc _)
  clear z1
  generalize World.alloc _ _ = W at HB K4 K1 ⊢
  generalize hp1 : w.heap.size = p1 at K1 K4 ⊢
  have HP1 : Hid (w.heap.size ≤ p1 + 1 ∧ w.heap.size = p1) := by unfold Hid; omega
  clear hp1
  have HP2 : Hid (p1 < p1 + 1) := by unfold Hid; omega
  generalize p1 + 1 = p2 at K4 HP1 HP2 ⊢
  obtain ⟨x0, x1, x2, x3⟩ := K1.out
  have hmk : ∀ W : World, (Instr.makeSlice 24 (.int .i64 (L : Int)) (.int .i64 (L : Int))).run Tryz.prog W = .ok (.slice (some ⟨W.heap.size, 0, none⟩) L L) (W.alloc (.cells (madeCells #[.int .i64 0] L) 3)) := by
    obtain ⟨j0, hj, hj0, hj1, hj2⟩ := info_parts' info_i
    intro W
    have := run_make (P := Tryz.prog) W 24 3 j0 _ Tryz.underlying24 hj hj0 .i64 .i64 L L (by omega) (by omega) (by rw [hj2]; omega) (by omega)
    rw [hj1, Nat.mul_one] at this
    exact this
  have hp1l : p1 < W.heap.size := by simpa using World.block_lt_of_cell? _ _ x0
  have hp1m : p1 < W.heap.size + 1 := by omega
  go_cut [3] from 8 to 14 (fun s3 wx => MadeC W wx n0 n1 n2 L s3)
  case first =>
    go_region
    · go_wp2_with fail
      go_meet
      first | exact made1 _ _ _ _ _ hL | exact made2 _ _ _ _ _ hL
    · go_wp2_with fail
      go_meet
      first | exact made1 _ _ _ _ _ hL | exact made2 _ _ _ _ _ hL
  case rest =>
    obtain ⟨p5, gc, rfl, hcv, hic, hb5, hlp, hlg, hne⟩ := hcut
    have HCV := Lib.hid hcv
    have HIC : Hid (IArr wc gc L (partL n0 n1 n2 L cs 0 0)) := hic.ext (partL_zero _ _ _ _ _).symm
    have HB5 := Lib.hid hb5
    have hp2W : p2 < W.heap.size := by simpa using World.block_lt_of_cell? _ _ (K4.out 0 (by omega)).1
    obtain ⟨x0, x1, x2, x3⟩ := K1.out.bel HB5.out
    clear hcv hic hb5 hmk
    go_wp2_with fail
    clear x0 x1 x2 x3
    go_loopw [18] (fun i wr => ∃ k : Nat, k ≤ L ∧ i = .int .i64 k ∧ CVar wr p5 n0 n1 n2 (some ⟨gc, 0, none⟩) L L ∧ IArr wr gc L (partL n0 n1 n2 L cs k 0) ∧ Bel W wr) (fun i _ => L - (intOf i).toNat)
    case atStart => exact ⟨0, Nat.zero_le _, rfl, HCV.out, HIC.out, HB5.out⟩
    case round =>
      clear HCV HIC HB5
      obtain ⟨k, hk, rfl, hcv, hic, hbw⟩ := hrel
      by_cases hlt : k < L
      · have hcell := (HB.out.trans hbw).cellv (HX.out k hlt)
        have HKZ : Hid (cs.getD k 0 = 0 → partL n0 n1 n2 L cs k 0 = partL n0 n1 n2 L cs (k + 1) 0) := partL_skip _ _ _ _ _ _
        obtain ⟨z, hz⟩ : ∃ z, cs.getD k 0 = z := ⟨_, rfl⟩
        rw [hz] at hcell HKZ
        have HZ := Lib.hid hz
        have HCV := Lib.hid hcv
        have HIC := Lib.hid hic
        have HBW := Lib.hid hbw
        have hki : (k : Int) < L := by omega
        obtain ⟨x0, x1, x2, x3⟩ := K1.out.bel hbw
        clear hcv hic hbw hz
        by_cases hz0 : z = 0
        · subst hz0
          go_wp2_with fail
          go_roundw
          case rel => exact ⟨k + 1, by omega, by go_num, HCV.out, HIC.out.ext (HKZ.out rfl), HBW.out⟩
          case measure => simp [intOf]; omega
        · have c1 : (z == 0) = false := by simp [hz0]
          have c2 : (z != 0) = true := by simp [hz0]
          clear HKZ
          obtain ⟨l0, l1, l2, _⟩ := place_parts HS.out hlt
          have e : k / (n1 * n2) = k / n2 / n1 := by rw [Nat.mul_comm, Nat.div_div_eq_div_mul]
          have HPL := Lib.hid (fun W => rat_any n0 n1 n2 k W HS.out.b.1 HS.out.c.1 HS.out.b.2 HS.out.c.2 (by omega))
          rw [e] at HPL
          go_wp2_with fail
          refine (HPL.out _).mono ?_
          rintro e w3 ⟨rfl, hb3⟩
          have HB3 := Lib.hid hb3
          have HVB : Hid (k / n2 / n1 ≤ 192 ∧ k / n2 % n1 ≤ 192 ∧ k % n2 ≤ 192) := ⟨by have := HS.out.a.2; omega, by have := HS.out.b.2; omega, by have := HS.out.c.2; omega⟩
          have HMI := Lib.hid (fun u => movN_int n0 n1 n2 k u)
          rw [e] at HMI
          clear x0 x1 x2 x3 hb3 hcell HPL e l0 l1 l2
          generalize k / n2 / n1 = v0 at *
          generalize k / n2 % n1 = v1 at *
          generalize k % n2 = v2 at *
          obtain ⟨x0, x1, x2, x3⟩ := HCV.out.bel HB3.out
          have hp5l : p5 < w3.heap.size := by simpa using World.block_lt_of_cell? _ _ x0
          go_wp2_with fail
          clear x0 x1 x2 x3
          have HB4 : Hid (Bel wr (w3.alloc (.cells #[.int .i64 v0, .int .i64 v1, .int .i64 v2] 23))) := HB3.out.alloc _
          have HV4 : Hid (V3 (w3.alloc (.cells #[.int .i64 v0, .int .i64 v1, .int .i64 v2] 23)) w3.heap.size v0 v1 v2) := v3_new _ _ _ _ _
          generalize World.alloc _ _ = w4 at HB4 HV4 ⊢
          have hp1W : p1 < W.heap.size := by simpa using World.block_lt_of_cell? _ _ K1.out.1
          have hn1 : p1 ≠ gc := by omega
          have hn3 : w3.heap.size ≠ gc := by have h1 := HIC.out.lt; have h2 := HB3.out.size; omega
          have hbl : b < w.heap.size := by simpa using World.block_lt_of_cell? _ _ (HX.out k hlt)
          have hn4 : b ≠ gc := by have := HB.out.size; omega
          clear hp5l
          generalize w3.heap.size = p8 at HV4 hn3 ⊢
          have HC4 := Lib.hid (HCV.out.bel HB4.out)
          have HI4 := Lib.hid (HIC.out.bel HB4.out)
          have HBW4 := Lib.hid (HBW.out.trans HB4.out)
          clear HCV HIC HB3 HB4 HBW
          go_loopw [32] (fun i wq => ∃ j : Nat, j ≤ L ∧ i = .int .i64 j ∧ CVar wq p5 n0 n1 n2 (some ⟨gc, 0, none⟩) L L ∧ IArr wq gc L (partL n0 n1 n2 L cs k j) ∧ V3 wq p8 v0 v1 v2 ∧ Bel W wq) (fun i _ => L - (intOf i).toNat)
          case atStart => exact ⟨0, Nat.zero_le _, rfl, HC4.out, HI4.out, HV4.out, HBW4.out⟩
          case round =>
            clear HC4 HI4 HV4 HBW4
            obtain ⟨j, hj, rfl, hcv, hic, hv, hbw⟩ := hrel
            by_cases hjt : j < L
            · obtain ⟨l0, l1, l2, _⟩ := place_parts HS.out hjt
              have e : j / (n1 * n2) = j / n2 / n1 := by rw [Nat.mul_comm, Nat.div_div_eq_div_mul]
              have HRA := Lib.hid (fun W => rat_any n0 n1 n2 j W HS.out.b.1 HS.out.c.1 HS.out.b.2 HS.out.c.2 (by omega))
              have hmi := HMI.out j
              have hol : movN n0 n1 n2 k j < L := movN_lt HS.out k j
              have hA := partL_get n0 n1 n2 L cs k j hjt
              have hcu := hic.cell (i := j) (by rw [partL_length]; exact hjt) 0
              rw [hA] at hcu
              have hfu := hic.frozen j
              have hya := (HB.out.trans hbw).cellv (HX.out _ hol)
              have hbz := HW.out k (by rw [HL.out]; exact hlt)
              have hby := HW.out _ (by rw [HL.out]; exact hol)
              have b1 := auto_part HS.out cs HL.out HW.out j k (by omega)
              have b2 := auto_part HS.out cs HL.out HW.out j (k + 1) (by omega)
              have b3 : (cs.getD k 0 * cs.getD (movN n0 n1 n2 k j) 0).natAbs ≤ 1048576 * 1048576 := by
                rw [Int.natAbs_mul]; exact Nat.mul_le_mul (by omega) (by omega)
              have hs1 : partS n0 n1 n2 cs (k + 1) j = partS n0 n1 n2 cs k j + cs.getD k 0 * cs.getD (movN n0 n1 n2 k j) 0 := rfl
              have HSET := Lib.hid (partL_set n0 n1 n2 L cs k j)
              change (partS n0 n1 n2 cs k j).natAbs ≤ _ at b1
              change (partS n0 n1 n2 cs (k + 1) j).natAbs ≤ _ at b2
              rw [HZ.out] at b3 hs1 hbz
              rw [e] at HRA hmi
              generalize cs.getD (movN n0 n1 n2 k j) 0 = y at *
              generalize movN n0 n1 n2 k j = o at *
              generalize partS n0 n1 n2 cs k j = acc at *
              generalize partS n0 n1 n2 cs (k + 1) j = acc2 at *
              have y0 : j / n2 / n1 ≤ 192 := by have := HS.out.a.2; omega
              have y1 : j / n2 % n1 ≤ 192 := by have := HS.out.b.2; omega
              have y2 : j % n2 ≤ 192 := by have := HS.out.c.2; omega
              clear l0 l1 l2 e hA
              generalize j / n2 / n1 = u0 at *
              generalize j / n2 % n1 = u1 at *
              generalize j % n2 = u2 at *
              obtain ⟨g0, g1, g2⟩ := HVB.out
              have HPU := Lib.hid (fun W => plus_any v0 v1 v2 u0 u1 u2 W (by omega) (by omega) (by omega) (by omega) (by omega) (by omega))
              have HRN := Lib.hid (fun W => rnumber_any n0 n1 n2 ((v0 : Int) + (u0 : Int)) ((v1 : Int) + (u1 : Int)) ((v2 : Int) + (u2 : Int)) W ⟨HS.out.a.1, HS.out.a.2⟩ ⟨HS.out.b.1, HS.out.b.2⟩ ⟨HS.out.c.1, HS.out.c.2⟩ (by omega) (by omega) (by omega))
              rw [hmi] at HRN
              obtain ⟨t, ht⟩ : ∃ t, z * y = t := ⟨_, rfl⟩
              rw [ht] at b3 hs1
              have f1 : IntKind.i64.wrap (z * y) = t := by rw [ht]; exact IntWalk.i64_in _ (by omega)
              have f2 : IntKind.i64.wrap (acc + t) = acc2 := by rw [← hs1]; exact IntWalk.i64_in _ (by omega)
              have HF := Lib.hid (And.intro f1 f2)
              have HK4 := Lib.hid (K1.out.bel hbw)
              have HC4 := Lib.hid hcv
              have HI4 := Lib.hid hic
              have HV4 := Lib.hid hv
              have HBW4 := Lib.hid hbw
              have HYA := Lib.hid hya
              have hji : (j : Int) < L := by omega
              have hoi : (o : Int) < L := by omega
              obtain ⟨wo, rfl⟩ : ∃ wo : World, wo = wr := ⟨_, rfl⟩
              clear hcv hic hv hbw hya hmi hbz hby b1 b2 b3 hs1 ht f1 f2 y0 y1 y2 g0 g1 g2
              go_wp2_with fail
              obtain ⟨f1, f2⟩ := HF.out
              have c0 : ∀ v : In wo, v.w.cell? ⟨p1, 0, none⟩ = some (.int .i64 n0) := In.cellv HK4.out.1
              have c1' : ∀ v : In wo, v.w.cell? ⟨p1, 1, none⟩ = some (.int .i64 n1) := In.cellv HK4.out.2.1
              have c2' : ∀ v : In wo, v.w.cell? ⟨p1, 2, none⟩ = some (.int .i64 n2) := In.cellv HK4.out.2.2.1
              have c3 : ∀ v : In wo, v.w.cell? ⟨p1, 3, none⟩ = some (.slice (some ⟨b, off, none⟩) L cap) := In.cellv HK4.out.2.2.2
              have c4 : ∀ v : In wo, v.w.cell? ⟨p5, 3, none⟩ = some (.slice (some ⟨gc, 0, none⟩) L L) := In.cellv HC4.out.2.2.2
              have c5 : ∀ v : In wo, v.w.cell? ⟨p8, 0, none⟩ = some (.int .i64 v0) := In.cellv HV4.out.1
              have c6 : ∀ v : In wo, v.w.cell? ⟨p8, 1, none⟩ = some (.int .i64 v1) := In.cellv HV4.out.2.1
              have c7 : ∀ v : In wo, v.w.cell? ⟨p8, 2, none⟩ = some (.int .i64 v2) := In.cellv HV4.out.2.2
              have c8 : ∀ v : In wo, v.w.cell? ⟨b, off + o, none⟩ = some (iV y) := In.cellv HYA.out
              have c9 : ∀ v : In wo, v.w.cell? ⟨gc, j, none⟩ = some (iV acc) := In.cellv hcu
              have c10 : ∀ v : In wo, v.w.frozen? ⟨gc, j, none⟩ = false := In.frozen hcu hfu
              refine wp_in_tail 22 (by kernel_rfl) (by kernel_rfl) ?_
              simp only [List.take_succ_cons, List.take_zero, List.drop_succ_cons, List.drop_zero]
              repeat (go_big_quiet_step (first | (go_at_call 40; exact Calls.in_of (HRA.out _)) | (go_at_call 54; exact Calls.in_of (HPU.out _)) | (go_at_call 53; exact Calls.in_of (HRN.out _))))
              refine wpQuiet_nil ?_
              intro vq
              have hb := vq.h
              go_wp2_with fail
              go_roundw
              case rel => exact ⟨j + 1, by omega, by go_num, (HC4.out.bel hb).far hne _, ((HI4.out.bel hb).store j acc2).ext HSET.out, (HV4.out.bel hb).far hn3 _, (HBW4.out.trans hb).setCell (Nat.le_trans (by omega) hlg) _⟩
              case measure => simp [intOf]; omega
            · have hjl : j = L := by omega
              have HI : Hid (IArr wr gc L (partL n0 n1 n2 L cs (k + 1) 0)) := hic.ext (by rw [hjl]; exact partL_next _ _ _ _ _ _)
              have HC4 := Lib.hid hcv
              have HBW4 := Lib.hid hbw
              clear hcv hic hv hbw
              go_wp2_with fail
              go_roundw
              case rel => exact ⟨k + 1, by omega, by go_num, HC4.out, HI.out, HBW4.out⟩
              case measure => simp [intOf]; omega
      · have hkl : k = L := by omega
        have HI : Hid (IArr wr gc L (autoL n0 n1 n2 L cs)) := hic.ext (by rw [hkl]; exact partL_all _ _ _ _ _)
        have hr := K4.out.bel hbw
        have HR := Lib.hid hr
        obtain ⟨z0, z1, z2, z3⟩ := hcv
        obtain ⟨g0, f0⟩ := hr 0 (by omega)
        obtain ⟨g1, f1⟩ := hr 1 (by omega)
        obtain ⟨g2, f2⟩ := hr 2 (by omega)
        obtain ⟨g3, f3⟩ := hr 3 (by omega)
        have hwp : w.heap.size ≤ p2 := by have := HP1.out.1; omega
        have hwg : w.heap.size ≤ gc := by have := HB.out.size; omega
        have hpg : p2 ≠ gc := by omega
        have HSET := Lib.hid (cvar_set hr n0 n1 n2 (some ⟨gc, 0, none⟩) L L)
        have HBF := Lib.hid (((((HB.out.trans hbw).setCell (p := ⟨p2, 0, none⟩) hwp (.int .i64 n0)).setCell (p := ⟨p2, 1, none⟩) hwp (.int .i64 n1)).setCell (p := ⟨p2, 2, none⟩) hwp (.int .i64 n2)).setCell (p := ⟨p2, 3, none⟩) hwp (.slice (some ⟨gc, 0, none⟩) L L))
        have HIF := Lib.hid ((((HI.out.setOther (p := ⟨p2, 0, none⟩) hpg (.int .i64 n0)).setOther (p := ⟨p2, 1, none⟩) hpg (.int .i64 n1)).setOther (p := ⟨p2, 2, none⟩) hpg (.int .i64 n2)).setOther (p := ⟨p2, 3, none⟩) hpg (.slice (some ⟨gc, 0, none⟩) L L))
        clear hr hic hbw HI
        subst hkl
        go_wp2_with fail
        obtain ⟨r0, r1, r2, r3⟩ := HSET.out
        refine bodyPost_ret (v := countV n0 n1 n2 (some ⟨gc, 0, none⟩) k k) (by simp [results, Tryz.results34, go_sem, r0, r1, r2, r3]) rfl ⟨⟨gc, k, rfl, hwg, HIF.out⟩, HBF.out⟩

end Go.Proofs.YtehiabiahipkhaaGreat

namespace Go.Proofs.YtehiabiahipkhaaGreat
open Go.RowKit
set_option linter.unusedVariables false
set_option linter.unusedSimpArgs false

theorem sideE_total (d : Bool) (n0 n1 n2 : Int) : ∃ z, SideE d n0 n1 n2 z := by
  by_cases h0 : badS d n0
  · exact ⟨1, Or.inl ⟨Or.inl h0, rfl⟩⟩
  · by_cases h1 : badS d n1
    · exact ⟨1, Or.inl ⟨Or.inr (Or.inl h1), rfl⟩⟩
    · by_cases h2 : badS d n2
      · exact ⟨1, Or.inl ⟨Or.inr (Or.inr h2), rfl⟩⟩
      · by_cases h : 262144 < n0 * n1 * n2
        · exact ⟨2, Or.inr (Or.inl ⟨h0, h1, h2, h, rfl⟩)⟩
        · exact ⟨0, Or.inr (Or.inr ⟨h0, h1, h2, by omega, rfl⟩)⟩
theorem grid_of_side {d : Bool} {n0 n1 n2 m z : Int} (h : SideE d n0 n1 n2 z) (h0 : z ≠ 0) : GridE d n0 n1 n2 m z := by
  rcases h with ⟨h, rfl⟩ | ⟨a, b, c, h, rfl⟩ | ⟨a, b, c, h, rfl⟩
  · exact Or.inl ⟨h, rfl⟩
  · exact Or.inr ⟨⟨a, b, c⟩, Or.inl ⟨h, rfl⟩⟩
  · exact absurd rfl h0
theorem GridE.det {d : Bool} {n0 n1 n2 m a b : Int} (h : GridE d n0 n1 n2 m a) (k : GridE d n0 n1 n2 m b) : a = b := by
  rcases h with ⟨h, rfl⟩ | ⟨⟨h0, h1, h2⟩, h⟩
  · rcases k with ⟨k, rfl⟩ | ⟨⟨k0, k1, k2⟩, k⟩
    · rfl
    · rcases h with h | h | h <;> contradiction
  · rcases k with ⟨k, rfl⟩ | ⟨⟨k0, k1, k2⟩, k⟩
    · rcases k with k | k | k <;> contradiction
    · generalize n0 * n1 * n2 = q at *
      rcases h with ⟨h, rfl⟩ | ⟨h, h', rfl⟩ | ⟨h, h', rfl⟩ <;> rcases k with ⟨k, rfl⟩ | ⟨k, k', rfl⟩ | ⟨k, k', rfl⟩ <;> omega
theorem CountE.det {n0 n1 n2 : Int} {m : Nat} {cs : List Int} {a b : Int} (h : CountE n0 n1 n2 m cs a) (k : CountE n0 n1 n2 m cs b) : a = b := by
  rcases h with ⟨h, h0⟩ | ⟨h, h0⟩
  · rcases k with ⟨k, k0⟩ | ⟨k, k0⟩
    · exact h.det k
    · exact absurd (h.det k) h0
  · rcases k with ⟨k, k0⟩ | ⟨k, k0⟩
    · exact absurd (k.det h) k0
    · rcases h0 with ⟨rfl, h1⟩ | ⟨rfl, h1⟩ <;> rcases k0 with ⟨rfl, k1⟩ | ⟨rfl, k1⟩
      · rfl
      · exact absurd h1 k1
      · exact absurd k1 h1
      · rfl
theorem good_side {n : Int} (h : ¬ badS true n) : ∃ a : Nat, n = a ∧ 1 ≤ a ∧ a ≤ 192 ∧ 192 % a = 0 := by
  obtain ⟨h1, h2⟩ := badS_side h
  refine ⟨n.toNat, by omega, by omega, by omega, ?_⟩
  have h3 : ¬ ((192 : Int) % n ≠ 0) := fun h' => h (Or.inr (Or.inr ⟨rfl, h'⟩))
  have e : n = (n.toNat : Int) := by omega
  rw [e] at h3
  have h4 : ((192 : Nat) : Int) % (n.toNat : Int) = 0 := Classical.byContradiction h3
  rw [← Int.natCast_emod] at h4
  omega
theorem grid_s3 {n0 n1 n2 : Int} {m : Nat} (h : GridE true n0 n1 n2 m 0) : ∃ a b c : Nat, n0 = a ∧ n1 = b ∧ n2 = c ∧ S3 a b c m := by
  rcases h with ⟨_, h⟩ | ⟨⟨h0, h1, h2⟩, h⟩
  · omega
  · obtain ⟨hp, hm⟩ : n0 * n1 * n2 ≤ 262144 ∧ (m : Int) = n0 * n1 * n2 := by
      rcases h with ⟨_, h⟩ | ⟨_, _, h⟩ | ⟨h, h', _⟩
      · omega
      · omega
      · exact ⟨h, h'⟩
    obtain ⟨a, rfl, ha⟩ := good_side h0
    obtain ⟨b, rfl, hb⟩ := good_side h1
    obtain ⟨c, rfl, hc⟩ := good_side h2
    have e : (a : Int) * b * c = ((a * b * c : Nat) : Int) := by simp
    rw [e] at hp hm
    exact ⟨a, b, c, rfl, rfl, rfl, ⟨ha, hb, hc, by omega, by omega⟩⟩
theorem S3.pos {a b c m : Nat} (h : S3 a b c m) : 1 ≤ m := by
  rw [← h.p]
  exact Nat.mul_pos (Nat.mul_pos h.a.1 h.b.1) h.c.1

/-- What Exact and DocExact answer. -/
def ExactR (n0 n1 n2 : Int) (m : Nat) (cs : List Int) (w : World) (e : Ending) (w' : World) : Prop :=
  ∃ z : Int, CountE n0 n1 n2 m cs z ∧ ((z ≠ 0 ∧ e = .returned (.tuple #[countV 0 0 0 none 0 0, .int .i64 z])) ∨
    (z = 0 ∧ ∃ g c, e = .returned (.tuple #[countV n0 n1 n2 (some ⟨g, 0, none⟩) m c, .int .i64 0]) ∧ w.heap.size ≤ g ∧ IArr w' g c (autoL n0.toNat n1.toNat n2.toNat m cs)))

theorem exact_any (b off cap m : Nat) (n0 n1 n2 : Int) (ao : Option Addr) (cs : List Int) (w : World) (hl : cs.length = m)
    (hx : ∀ i, i < m → ao = some ⟨b, off, none⟩ ∧ w.cell? ⟨b, off + i, none⟩ = some (iV (cs.getD i 0))) :
    Calls Tryz.prog 11 #[countV n0 n1 n2 ao m cap] w fun e w' => ExactR n0 n1 n2 m cs w e w' ∧ Bel w w' := by
  obtain ⟨z, hz⟩ := sideE_total true n0 n1 n2
  by_cases h0 : z = 0
  · subst h0
    by_cases hm : (m : Int) = n0 * n1 * n2
    · have hg : GridE true n0 n1 n2 m 0 := by
        rcases hz with ⟨_, h⟩ | ⟨_, _, _, _, h⟩ | ⟨h0, h1, h2, h, _⟩
        · omega
        · omega
        · exact Or.inr ⟨⟨h0, h1, h2⟩, Or.inr (Or.inr ⟨h, hm, rfl⟩)⟩
      obtain ⟨a, b', c, rfl, rfl, rfl, hs⟩ := grid_s3 hg
      obtain ⟨rfl, _⟩ := hx 0 hs.pos
      refine (exact_go b off cap a b' c m cs w hs hl fun i hi => (hx i hi).2).mono ?_
      rintro e w' ⟨h, hb⟩
      refine ⟨?_, hb⟩
      rcases h with ⟨hw, he⟩ | ⟨hw, g, k, he, hgs, ha⟩
      · exact ⟨4, Or.inr ⟨hg, Or.inr ⟨rfl, hw⟩⟩, Or.inl ⟨by omega, he⟩⟩
      · exact ⟨0, Or.inr ⟨hg, Or.inl ⟨rfl, hw⟩⟩, Or.inr ⟨rfl, g, k, he, hgs, ha⟩⟩
    · refine (exact_form n0 n1 n2 ao m cap w hz hm).mono ?_
      rintro e w' ⟨he, hb⟩
      refine ⟨⟨3, Or.inl ⟨?_, by omega⟩, Or.inl ⟨by omega, he⟩⟩, hb⟩
      rcases hz with ⟨_, h⟩ | ⟨_, _, _, _, h⟩ | ⟨h0, h1, h2, h, _⟩
      · omega
      · omega
      · exact Or.inr ⟨⟨h0, h1, h2⟩, Or.inr (Or.inl ⟨h, hm, rfl⟩)⟩
  · refine (exact_bad n0 n1 n2 z ao m cap w hz h0).mono ?_
    rintro e w' ⟨he, hb⟩
    exact ⟨⟨z, Or.inl ⟨grid_of_side hz h0, h0⟩, Or.inl ⟨h0, he⟩⟩, hb⟩

set_option maxHeartbeats 4000000 in
theorem docexact_any (b off cap m : Nat) (n0 n1 n2 : Int) (ao : Option Addr) (cs : List Int) (w : World) (hl : cs.length = m) (hm : m ≤ 1000000)
    (hx : ∀ i, i < m → ao = some ⟨b, off, none⟩ ∧ w.cell? ⟨b, off + i, none⟩ = some (iV (cs.getD i 0))) :
    Calls Tryz.prog 12 #[countV n0 n1 n2 ao m cap] w fun e w' => ExactR n0 n1 n2 m cs w e w' ∧ Bel w w' := by
  have HL := Lib.hid hl
  have HX := Lib.hid hx
  clear hl hx
  go_enter Tryz.func12, Tryz.ntmps12
  go_wp2_with fail
  have HB : Hid (Bel w ((w.alloc (.cells #[.int .i64 n0, .int .i64 n1, .int .i64 n2, .slice ao m cap] 26)).alloc (.cells #[.int .i64 0, .int .i64 0, .int .i64 0, .slice none 0 0] 26))) := ((Bel.refl w).alloc _).alloc _
  have z1 : (w.alloc (.cells #[.int .i64 n0, .int .i64 n1, .int .i64 n2, .slice ao m cap] 26)).heap.size = w.heap.size + 1 := size_alloc' _ _
  have K4 : Hid (R4 ((w.alloc (.cells #[.int .i64 n0, .int .i64 n1, .int .i64 n2, .slice ao m cap] 26)).alloc (.cells #[.int .i64 0, .int .i64 0, .int .i64 0, .slice none 0 0] 26)) (w.heap.size + 1)) := by
    rw [← z1]; exact r4_new _ _ _ _ _ _
  have K1 : Hid (CVar ((w.alloc (.cells #[.int .i64 n0, .int .i64 n1, .int .i64 n2, .slice ao m cap] 26)).alloc (.cells #[.int .i64 0, .int .i64 0, .int .i64 0, .slice none 0 0] 26)) w.heap.size n0 n1 n2 ao m cap) := (cvar_new w _ _ _ _ _ _ _).bel ((Bel.refl _).alloc _)
  clear z1
  generalize World.alloc _ _ = W at HB K4 K1 ⊢
  generalize hp1 : w.heap.size = p1 at K1 K4 ⊢
  have HP1 : Hid (w.heap.size ≤ p1 + 1 ∧ w.heap.size = p1) := by unfold Hid; omega
  clear hp1
  have HP2 : Hid (p1 < p1 + 1) := by unfold Hid; omega
  generalize p1 + 1 = p2 at K4 HP1 HP2 ⊢
  obtain ⟨x0, x1, x2, x3⟩ := K1.out
  have hwp : w.heap.size ≤ p2 := HP1.out.1
  refine (rcounts_any b off cap m n0 n1 n2 ao cs W HL.out hm fun i hi => ⟨(HX.out i hi).1, HB.out.cellv (HX.out i hi).2⟩).mono ?_
  rintro e w1 ⟨⟨z, rfl, hz⟩, hb1⟩
  have HZ := Lib.hid hz
  have HB1 := Lib.hid hb1
  clear hz hb1 x0 x1 x2 x3
  by_cases h0 : z = 0
  · subst h0
    have hcw : GridE true n0 n1 n2 m 0 ∧ Within cs := by
      rcases HZ.out with ⟨_, h⟩ | ⟨hg, h⟩
      · exact absurd rfl h
      · rcases h with ⟨_, h⟩ | ⟨h, _⟩
        · exact ⟨hg, h⟩
        · omega
    obtain ⟨a, b', c, rfl, rfl, rfl, hs⟩ := grid_s3 hcw.1
    obtain ⟨rfl, _⟩ := HX.out 0 hs.pos
    have HE := Lib.hid (rexact_any b off cap a b' c m cs w1 hs.p3 HL.out hcw.2 fun i hi => (HB.out.trans HB1.out).cellv (HX.out i hi).2)
    have HR := Lib.hid (K4.out.bel HB1.out)
    obtain ⟨x0, x1, x2, x3⟩ := K1.out.bel HB1.out
    have hp2w : p2 < w1.heap.size := by
      have := World.block_lt_of_cell? _ _ (HR.out 0 (by omega)).1
      simpa using this
    have hww : w.heap.size ≤ w1.heap.size := (HB.out.trans HB1.out).size
    clear hcw hs
    go_wp2_with fail
    refine HE.out.mono ?_
    rintro e w3 ⟨⟨g, k, rfl, hg, ha⟩, hb3⟩
    have hpg : p2 ≠ g := by omega
    have hwg : w.heap.size ≤ g := by omega
    have hrb := HR.out.bel hb3
    have HSET := Lib.hid (cvar_set hrb a b' c (some ⟨g, 0, none⟩) m k)
    have HBF := Lib.hid ((((((HB.out.trans HB1.out).trans hb3).setCell (p := ⟨p2, 0, none⟩) hwp (.int .i64 a)).setCell (p := ⟨p2, 1, none⟩) hwp (.int .i64 b')).setCell (p := ⟨p2, 2, none⟩) hwp (.int .i64 c)).setCell (p := ⟨p2, 3, none⟩) hwp (.slice (some ⟨g, 0, none⟩) m k))
    have HIF := Lib.hid ((((ha.setOther (p := ⟨p2, 0, none⟩) hpg (.int .i64 a)).setOther (p := ⟨p2, 1, none⟩) hpg (.int .i64 b')).setOther (p := ⟨p2, 2, none⟩) hpg (.int .i64 c)).setOther (p := ⟨p2, 3, none⟩) hpg (.slice (some ⟨g, 0, none⟩) m k))
    obtain ⟨g0, f0⟩ := hrb 0 (by omega)
    obtain ⟨g1, f1⟩ := hrb 1 (by omega)
    obtain ⟨g2, f2⟩ := hrb 2 (by omega)
    obtain ⟨g3, f3⟩ := hrb 3 (by omega)
    clear hrb ha hb3 x0 x1 x2 x3
    go_wp2_with fail
    obtain ⟨r0, r1, r2, r3⟩ := HSET.out
    refine bodyPost_ret (v := .tuple #[countV a b' c (some ⟨g, 0, none⟩) m k, .int .i64 0]) (by simp [results, Tryz.results12, go_sem, r0, r1, r2, r3]) rfl ⟨⟨0, HZ.out, Or.inr ⟨rfl, g, k, rfl, hwg, HIF.out⟩⟩, HBF.out⟩
  · have HN := Lib.hid h0
    have c1 : (z != 0) = true := by simp [h0]
    have c2 : (z == 0) = false := by simp [h0]
    have hrb := K4.out.bel HB1.out
    have HSET := Lib.hid (cvar_set hrb 0 0 0 none 0 0)
    have HBF := Lib.hid (((((HB.out.trans HB1.out).setCell (p := ⟨p2, 0, none⟩) hwp (.int .i64 0)).setCell (p := ⟨p2, 1, none⟩) hwp (.int .i64 0)).setCell (p := ⟨p2, 2, none⟩) hwp (.int .i64 0)).setCell (p := ⟨p2, 3, none⟩) hwp (.slice none 0 0))
    obtain ⟨g0, f0⟩ := hrb 0 (by omega)
    obtain ⟨g1, f1⟩ := hrb 1 (by omega)
    obtain ⟨g2, f2⟩ := hrb 2 (by omega)
    obtain ⟨g3, f3⟩ := hrb 3 (by omega)
    clear hrb
    go_wp2_with fail
    obtain ⟨r0, r1, r2, r3⟩ := HSET.out
    refine bodyPost_ret (v := .tuple #[countV 0 0 0 none 0 0, .int .i64 z]) (by simp [results, Tryz.results12, go_sem, r0, r1, r2, r3]) rfl ⟨⟨z, HZ.out, Or.inl ⟨HN.out, rfl⟩⟩, HBF.out⟩

end Go.Proofs.YtehiabiahipkhaaGreat
