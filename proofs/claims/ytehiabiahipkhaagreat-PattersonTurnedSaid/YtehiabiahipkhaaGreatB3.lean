/-
  The walk of patterson.Exact on right sides.
  Regions that draw their order and whose calls make new blocks alone, in front of a last store: one walk of the text's order serves every order.
-/
import Derived.Test.YtehiabiahipkhaaGreatB2
import Derived.StillTail
import Derived.BigQuiet
import Derived.Test.YtehiabiahipkhaaGreatA1
namespace Go.Proofs.YtehiabiahipkhaaGreat
open Go.RowKit
set_option linter.unusedVariables false
set_option linter.unusedSimpArgs false

theorem neg_emod_nat {n x : Nat} (h : x < n) : (-(x : Int)) % (n : Int) = (((n - x) % n : Nat) : Int) := by
  by_cases hx : x = 0
  · subst hx; simp
  · rw [Nat.mod_eq_of_lt (show n - x < n by omega)]
    have e : (-(x : Int)) % (n : Int) = (-(x : Int) + (n : Int)) % (n : Int) := by rw [Int.add_emod_right]
    rw [e, Int.emod_eq_of_lt (by omega) (by omega)]
    omega

theorem natAbs_neg_le {x : Nat} (h : x ≤ 1000000) : (-(x : Int)).natAbs ≤ 1000000 := by omega

theorem CVar.far {W : World} {p : Nat} {n0 n1 n2 : Int} {ao : Option Addr} {m c : Nat} (h : CVar W p n0 n1 n2 ao m c) {q : Addr} (hq : p ≠ q.block) (x : Value) : CVar (W.setCell q x) p n0 n1 n2 ao m c :=
  ⟨cell_far h.1 hq, cell_far h.2.1 hq, cell_far h.2.2.1 hq, cell_far h.2.2.2 hq⟩
theorem own_store {W : World} {p : Addr} (h : W.cell? p = some (cellD W p) ∧ W.frozen? p = false) (x : Value) : (W.setCell p x).cell? p = some (cellD (W.setCell p x) p) ∧ (W.setCell p x).frozen? p = false :=
  ⟨cellD_eq (World.cell?_setCell_same' W p x (by rw [h.1]; rfl)), by simp [h.2]⟩

/-- What patterson.Exact answers on right sides. -/
def ExactA (n0 n1 n2 m : Nat) (cs : List Int) (w : World) (e : Ending) (w' : World) : Prop :=
  (¬ Within cs ∧ e = .returned (.tuple #[countV 0 0 0 none 0 0, .int .i64 4])) ∨
  (Within cs ∧ ∃ g c, e = .returned (.tuple #[countV n0 n1 n2 (some ⟨g, 0, none⟩) m c, .int .i64 0]) ∧ w.heap.size ≤ g ∧ IArr w' g c (autoL n0 n1 n2 m cs))

set_option maxHeartbeats 8000000 in
set_option maxRecDepth 100000 in
theorem exact_go (b off cap n0 n1 n2 L : Nat) (cs : List Int) (w : World) (hs : S3 n0 n1 n2 L) (hl : cs.length = L)
    (hx : ∀ i, i < L → w.cell? ⟨b, off + i, none⟩ = some (iV (cs.getD i 0))) :
    Calls Tryz.prog 11 #[countV n0 n1 n2 (some ⟨b, off, none⟩) L cap] w fun e w' => ExactA n0 n1 n2 L cs w e w' ∧ Bel w w' := by
  have hside : SideE true n0 n1 n2 0 := by
    have key : ∀ n : Nat, 1 ≤ n → n ≤ 192 → 192 % n = 0 → ¬ badS true (n : Int) := fun n h1 h2 h3 h => by
      rcases h with h | h | ⟨_, h⟩
      · omega
      · omega
      · apply h; rw [show (192 : Int) = ((192 : Nat) : Int) from rfl, ← Int.natCast_emod, h3]; rfl
    refine Or.inr (Or.inr ⟨key _ hs.a.1 hs.a.2.1 hs.a.2.2, key _ hs.b.1 hs.b.2.1 hs.b.2.2, key _ hs.c.1 hs.c.2.1 hs.c.2.2, ?_, rfl⟩)
    have h1 := hs.p
    have h2 := hs.l
    rw [← h1] at h2
    have e : (n0 : Int) * n1 * n2 = ((n0 * n1 * n2 : Nat) : Int) := by simp
    rw [e]; omega
  have p1 : n0 * n1 ≤ 192 * 192 := Nat.mul_le_mul hs.a.2.1 hs.b.2.1
  have q1 : IntKind.i64.wrap ((n0 : Int) * n1) = (n0 : Int) * n1 := by rw [← Int.natCast_mul]; exact IntWalk.i64_in _ (by omega)
  have q2 : IntKind.i64.wrap ((n0 : Int) * n1 * n2) = (L : Int) := by
    have := hs.l
    rw [← Int.natCast_mul, ← Int.natCast_mul, hs.p]; exact IntWalk.i64_in _ (by omega)
  have HQ := Lib.hid (And.intro q1 q2)
  have HZ := Lib.hid hside
  have HS := Lib.hid hs
  have HL := Lib.hid hl
  have HX := Lib.hid hx
  have hL := hs.l
  clear hside p1 q1 q2 hs hl hx
  go_enter Tryz.func11, Tryz.ntmps11
  go_wp2_with fail
  have HB : Hid (Bel w ((w.alloc (.cells #[.int .i64 n0, .int .i64 n1, .int .i64 n2, .slice (some ⟨b, off, none⟩) L cap] 26)).alloc (.cells #[.int .i64 0, .int .i64 0, .int .i64 0, .slice none 0 0] 26))) := ((Bel.refl w).alloc _).alloc _
  have z1 : (w.alloc (.cells #[.int .i64 n0, .int .i64 n1, .int .i64 n2, .slice (some ⟨b, off, none⟩) L cap] 26)).heap.size = w.heap.size + 1 := size_alloc' _ _
  have K4 : Hid (R4 ((w.alloc (.cells #[.int .i64 n0, .int .i64 n1, .int .i64 n2, .slice (some ⟨b, off, none⟩) L cap] 26)).alloc (.cells #[.int .i64 0, .int .i64 0, .int .i64 0, .slice none 0 0] 26)) (w.heap.size + 1)) := by
    rw [← z1]; exact r4_new _ _ _ _ _ _
  have K1 : Hid (CVar ((w.alloc (.cells #[.int .i64 n0, .int .i64 n1, .int .i64 n2, .slice (some ⟨b, off, none⟩) L cap] 26)).alloc (.cells #[.int .i64 0, .int .i64 0, .int .i64 0, .slice none 0 0] 26)) w.heap.size n0 n1 n2 (some ⟨b, off, none⟩) L cap) := (cvar_new w _ _ _ _ _ _ _).bel ((Bel.refl _).alloc _)
  clear z1
  generalize World.alloc _ _ = W at HB K4 K1 ⊢
  generalize hp1 : w.heap.size = p1 at K1 K4 ⊢
  have HP1 : Hid (w.heap.size ≤ p1 + 1 ∧ w.heap.size = p1) := by unfold Hid; omega
  clear hp1
  have HP2 : Hid (p1 < p1 + 1) := by unfold Hid; omega
  generalize p1 + 1 = p2 at K4 HP1 HP2 ⊢
  refine (sides_any true n0 n1 n2 _).mono ?_
  rintro e w1 ⟨⟨z1, rfl, hz1⟩, hb1⟩
  obtain rfl := HZ.out.det hz1
  obtain ⟨x0, x1, x2, x3⟩ := K1.out.bel hb1
  obtain ⟨q1, q2⟩ := HQ.out
  have HB1 := Lib.hid hb1
  clear hz1 hb1
  go_wp2_with fail
  have hmk : ∀ W : World, (Instr.makeSlice 24 (.int .i64 (L : Int)) (.int .i64 (L : Int))).run Tryz.prog W = .ok (.slice (some ⟨W.heap.size, 0, none⟩) L L) (W.alloc (.cells (madeCells #[.int .i64 0] L) 3)) := by
    obtain ⟨j0, hj, hj0, hj1, hj2⟩ := info_parts' info_i
    intro W
    have := run_make (P := Tryz.prog) W 24 3 j0 _ Tryz.underlying24 hj hj0 .i64 .i64 L L (by omega) (by omega) (by rw [hj2]; omega) (by omega)
    rw [hj1, Nat.mul_one] at this
    exact this
  have hp1l : p1 < w1.heap.size := by simpa using World.block_lt_of_cell? _ _ x0
  have hp1m : p1 < w1.heap.size + 1 := by omega
  go_cut [5] from 32 to 38 (fun s5 wx => MadeC w1 wx n0 n1 n2 L s5)
  case first =>
    go_region
    · go_wp2_with fail
      go_meet
      first | exact made1 _ _ _ _ _ hL | exact made2 _ _ _ _ _ hL
    · go_wp2_with fail
      go_meet
      first | exact made1 _ _ _ _ _ hL | exact made2 _ _ _ _ _ hL
  case rest =>
    obtain ⟨p5, gc, rfl, hcv, hic, hb5, hlp, hlg, hne⟩ := hcut
    have HCV := Lib.hid hcv
    have HIC : Hid (IArr wc gc L (oppFill n0 n1 n2 L cs 0)) := hic
    have HB5 := Lib.hid (HB1.out.trans hb5)
    have hWg : W.heap.size ≤ gc := Nat.le_trans HB1.out.size hlg
    have hWp : W.heap.size ≤ p5 := Nat.le_trans HB1.out.size hlp
    have hp2W : p2 < W.heap.size := by simpa using World.block_lt_of_cell? _ _ (K4.out 0 (by omega)).1
    have hp1W : p1 < W.heap.size := by simpa using World.block_lt_of_cell? _ _ K1.out.1
    obtain ⟨x0, x1, x2, x3⟩ := K1.out.bel HB5.out
    clear hcv hic hb5 hmk q1 q2
    go_wp2_with fail
    clear x0 x1 x2 x3
    go_loopw [42] (fun i wr => ∃ k : Nat, k ≤ L ∧ i = .int .i64 k ∧ CVar wr p5 n0 n1 n2 (some ⟨gc, 0, none⟩) L L ∧ IArr wr gc L (oppFill n0 n1 n2 L cs k) ∧ Bel W wr) (fun i _ => L - (intOf i).toNat)
    case atStart => exact ⟨0, Nat.zero_le _, rfl, HCV.out, HIC.out, HB5.out⟩
    case round =>
      clear HCV HIC HB5
      obtain ⟨k, hk, rfl, hcv, hic, hbw⟩ := hrel
      by_cases hlt : k < L
      · obtain ⟨l0, l1, l2, _⟩ := place_parts HS.out.p3 hlt
        have HPL := Lib.hid (fun W => place_any n0 n1 n2 k W HS.out.b.1 HS.out.c.1 HS.out.b.2.1 HS.out.c.2.1 (by omega))
        have HNU := Lib.hid (fun W => number_any ((n0 - k / n2 / n1) % n0) ((n1 - k / n2 % n1) % n1) ((n2 - k % n2) % n2) n0 n1 n2 W (Nat.mod_lt _ HS.out.a.1) (Nat.mod_lt _ HS.out.b.1) (Nat.mod_lt _ HS.out.c.1) HS.out.a.2.1 HS.out.b.2.1 HS.out.c.2.1)
        have HWI := Lib.hid (fun W => within_any n0 n1 n2 (-((k / n2 / n1 : Nat) : Int)) (-((k / n2 % n1 : Nat) : Int)) (-((k % n2 : Nat) : Int)) W ⟨HS.out.a.1, HS.out.a.2.1⟩ ⟨HS.out.b.1, HS.out.b.2.1⟩ ⟨HS.out.c.1, HS.out.c.2.1⟩
          (natAbs_neg_le (by have := HS.out.a.2.1; omega)) (natAbs_neg_le (by have := HS.out.b.2.1; omega)) (natAbs_neg_le (by have := HS.out.c.2.1; omega)))
        rw [neg_emod_nat l0, neg_emod_nat l1, neg_emod_nat l2] at HWI
        obtain ⟨o, ho⟩ : ∃ o, oppN n0 n1 n2 k = o := ⟨_, rfl⟩
        have ho2 : ((n0 - k / n2 / n1) % n0 * n1 + (n1 - k / n2 % n1) % n1) * n2 + (n2 - k % n2) % n2 = o := ho
        have hol : o < L := by rw [← ho]; exact oppN_lt HS.out.p3 k
        rw [ho2] at HNU
        have HO : Hid (oppFill n0 n1 n2 L cs (k + 1) = (oppFill n0 n1 n2 L cs k).set o (cs.getD k 0)) := by rw [← ho]; rfl
        have y0 : (k / n2 / n1 : Nat) ≤ 192 := by have := HS.out.a.2.1; omega
        have y1 : (k / n2 % n1 : Nat) ≤ 192 := by have := HS.out.b.2.1; omega
        have y2 : (k % n2 : Nat) ≤ 192 := by have := HS.out.c.2.1; omega
        clear ho ho2 l0 l1 l2
        generalize (n0 - k / n2 / n1) % n0 = a0 at *
        generalize (n1 - k / n2 % n1) % n1 = a1 at *
        generalize (n2 - k % n2) % n2 = a2 at *
        generalize k / n2 / n1 = v0 at *
        generalize k / n2 % n1 = v1 at *
        generalize k % n2 = v2 at *
        have f0 : IntKind.i64.wrap (-(v0 : Int)) = -(v0 : Int) := IntWalk.i64_in _ (by omega)
        have f1 : IntKind.i64.wrap (-(v1 : Int)) = -(v1 : Int) := IntWalk.i64_in _ (by omega)
        have f2 : IntKind.i64.wrap (-(v2 : Int)) = -(v2 : Int) := IntWalk.i64_in _ (by omega)
        have hcell := (HB.out.trans hbw).cellv (HX.out k hlt)
        obtain ⟨z, hz⟩ : ∃ z, cs.getD k 0 = z := ⟨_, rfl⟩
        rw [hz] at hcell HO
        have HF := Lib.hid (And.intro f0 (And.intro f1 f2))
        have HCV := Lib.hid hcv
        have HIC := Lib.hid hic
        have HBW := Lib.hid hbw
        have hki : (k : Int) < L := by omega
        obtain ⟨x0, x1, x2, x3⟩ := K1.out.bel hbw
        clear hcv hic hbw hz y0 y1 y2 f0 f1 f2
        go_wp2_with fail
        refine (HPL.out _).mono ?_
        rintro e w3 ⟨rfl, hb3⟩
        have HB3 := Lib.hid hb3
        clear x0 x1 x2 x3 hb3 hcell
        go_wp2_with fail
        have HB4 : Hid (Bel wr (w3.alloc (.cells #[.int .i64 v0, .int .i64 v1, .int .i64 v2] 23))) := HB3.out.alloc _
        have HV4 : Hid (V3 (w3.alloc (.cells #[.int .i64 v0, .int .i64 v1, .int .i64 v2] 23)) w3.heap.size v0 v1 v2) := v3_new _ _ _ _ _
        generalize World.alloc _ _ = w4 at HB4 HV4 ⊢
        have hn1 : p1 ≠ gc := by omega
        have hn3 : w3.heap.size ≠ gc := by have h1 := HIC.out.lt; have h2 := HB3.out.size; omega
        have hn2 : p5 ≠ gc := hne
        generalize w3.heap.size = p8 at HV4 hn3 ⊢
        have HK4 := Lib.hid (K1.out.bel (HBW.out.trans HB4.out))
        have HC4 := Lib.hid (HCV.out.bel HB4.out)
        have HI4 := Lib.hid (HIC.out.bel HB4.out)
        have HG4 : Hid (w4.cell? ⟨gc, o, none⟩ = some (cellD w4 ⟨gc, o, none⟩) ∧ w4.frozen? ⟨gc, o, none⟩ = false) := ⟨cellD_eq (HI4.out.cell (by rw [oppFill_length]; exact hol) 0), HI4.out.frozen o⟩
        obtain ⟨f0, f1, f2⟩ := HF.out
        have hoi : (o : Int) < L := by omega
        have hb0 : Bel w4 w4.drew := (Bel.refl w4).drew
        go_region_held3 (fun w' => (w'.cell? ⟨p1, 0, none⟩ = some (.int .i64 n0) ∧ w'.cell? ⟨p1, 1, none⟩ = some (.int .i64 n1) ∧ w'.cell? ⟨p1, 2, none⟩ = some (.int .i64 n2) ∧ w'.cell? ⟨p1, 3, none⟩ = some (.slice (some ⟨b, off, none⟩) L cap)) ∧ w'.cell? ⟨p5, 3, none⟩ = some (.slice (some ⟨gc, 0, none⟩) L L) ∧ (w'.cell? ⟨p8, 0, none⟩ = some (.int .i64 v0) ∧ w'.cell? ⟨p8, 1, none⟩ = some (.int .i64 v1) ∧ w'.cell? ⟨p8, 2, none⟩ = some (.int .i64 v2)) ∧ w'.cell? ⟨gc, o, none⟩ = some (cellD w' ⟨gc, o, none⟩) ∧ w'.frozen? ⟨gc, o, none⟩ = false)
          (first
            | exact ⟨HK4.out.bel (by assumption), Bel.cellv (by assumption) HC4.out.2.2.2, HV4.out.bel (by assumption), cellD_eq (Bel.cellv (by assumption) HG4.out.1), (Bel.frozen (by assumption) (World.block_lt_of_cell? _ _ HG4.out.1)).trans HG4.out.2⟩
            | exact ⟨(HK4.out.bel hb).far hn1 _, cell_far (hb.cellv HC4.out.2.2.2) hn2, (HV4.out.bel hb).far hn3 _, own_store ⟨cellD_eq (hb.cellv HG4.out.1), (hb.frozen (World.block_lt_of_cell? _ _ HG4.out.1)).trans HG4.out.2⟩ _⟩)
          (first
            | (go_at_call 31; (with_reducible refine (callsFrom (HWI.out _) (by assumption)).mono ?_); rintro e w' ⟨rfl, hb⟩)
            | (go_at_call 30; (with_reducible refine (callsFrom (HNU.out _) (by assumption)).mono ?_); rintro e w' ⟨rfl, hb⟩))
        go_wp2_with fail
        go_roundw
        case rel =>
          have hb5 := HB4.out.trans hb
          exact ⟨k + 1, by omega, by go_num, (HC4.out.bel hb).far hne _, ((HI4.out.bel hb).store o z).ext HO.out.symm, (HBW.out.trans hb5).setCell hWg _⟩
        case measure => simp [intOf]; omega
      · have hkl : k = L := by omega
        have HI : Hid (IArr wr gc L (oppL n0 n1 n2 L cs)) := hic.ext (by rw [hkl]; rfl)
        have HC := Lib.hid hcv
        have HBW := Lib.hid hbw
        have hr := K4.out.bel hbw
        have HR := Lib.hid hr
        obtain ⟨x0, x1, x2, x3⟩ := K1.out.bel hbw
        obtain ⟨z0, z1, z2, z3⟩ := hcv
        have hx1 : ∀ i, i < L → wr.cell? ⟨gc, 0 + i, none⟩ = some (iV ((oppL n0 n1 n2 L cs).getD i 0)) := fun i hi => by
          rw [Nat.zero_add]; exact HI.out.cell (by rw [oppL_length]; exact hi) 0
        have hx2 : ∀ i, i < L → wr.cell? ⟨b, off + i, none⟩ = some (iV (cs.getD i 0)) := fun i hi => (HB.out.trans HBW.out).cellv (HX.out i hi)
        have HX1 := Lib.hid hx1
        have HX2 := Lib.hid hx2
        have hwp : w.heap.size ≤ p2 := by have := HP1.out.1; omega
        have hww : w.heap.size ≤ W.heap.size := HB.out.size
        clear hx1 hx2 hr hic hbw
        subst hkl
        obtain ⟨wo, rfl⟩ : ∃ wo : World, wo = wr := ⟨_, rfl⟩
        go_wp2_with fail
        clear x0 x1 x2 x3 z0 z1 z2 z3
        by_cases hw : Within cs
        · have HW := Lib.hid hw
          refine (fold_ok gc 0 k b off cap n0 n1 n2 k _ cs wo HS.out (oppL_length _ _ _ _ _) HL.out ((oppL_within HS.out.p3 cs HL.out).2 hw) hw HX1.out HX2.out).mono ?_
          rintro e w3 ⟨⟨g, c, rfl, hg, ha⟩, hb3⟩
          rw [fold_auto HS.out cs HL.out hw] at ha
          have hpg : p2 ≠ g := by have := HBW.out.size; omega
          have hwg : w.heap.size ≤ g := by have := HBW.out.size; omega
          have hrb := HR.out.bel hb3
          have HSET := Lib.hid (cvar_set hrb n0 n1 n2 (some ⟨g, 0, none⟩) k c)
          have HBF := Lib.hid ((((((HB.out.trans HBW.out).trans hb3).setCell (p := ⟨p2, 0, none⟩) hwp (.int .i64 n0)).setCell (p := ⟨p2, 1, none⟩) hwp (.int .i64 n1)).setCell (p := ⟨p2, 2, none⟩) hwp (.int .i64 n2)).setCell (p := ⟨p2, 3, none⟩) hwp (.slice (some ⟨g, 0, none⟩) k c))
          have HIF := Lib.hid ((((ha.setOther (p := ⟨p2, 0, none⟩) hpg (.int .i64 n0)).setOther (p := ⟨p2, 1, none⟩) hpg (.int .i64 n1)).setOther (p := ⟨p2, 2, none⟩) hpg (.int .i64 n2)).setOther (p := ⟨p2, 3, none⟩) hpg (.slice (some ⟨g, 0, none⟩) k c))
          obtain ⟨g0, f0⟩ := hrb 0 (by omega)
          obtain ⟨g1, f1⟩ := hrb 1 (by omega)
          obtain ⟨g2, f2⟩ := hrb 2 (by omega)
          obtain ⟨g3, f3⟩ := hrb 3 (by omega)
          clear hrb ha hb3 hw
          go_wp2_with fail
          obtain ⟨r0, r1, r2, r3⟩ := HSET.out
          refine bodyPost_ret (v := .tuple #[countV n0 n1 n2 (some ⟨g, 0, none⟩) k c, .int .i64 0]) (by simp [results, Tryz.results11, go_sem, r0, r1, r2, r3]) rfl ⟨Or.inr ⟨HW.out, g, c, rfl, hwg, HIF.out⟩, HBF.out⟩
        · have HW := Lib.hid hw
          refine (fold_over gc 0 k b off cap n0 n1 n2 k _ cs wo HS.out (oppL_length _ _ _ _ _) HL.out (fun h => hw ((oppL_within HS.out.p3 cs HL.out).1 h)) hw HX1.out HX2.out).mono ?_
          rintro e w3 ⟨rfl, hb3⟩
          have hrb := HR.out.bel hb3
          have HSET := Lib.hid (cvar_set hrb 0 0 0 none 0 0)
          have HBF := Lib.hid ((((((HB.out.trans HBW.out).trans hb3).setCell (p := ⟨p2, 0, none⟩) hwp (.int .i64 0)).setCell (p := ⟨p2, 1, none⟩) hwp (.int .i64 0)).setCell (p := ⟨p2, 2, none⟩) hwp (.int .i64 0)).setCell (p := ⟨p2, 3, none⟩) hwp (.slice none 0 0))
          obtain ⟨g0, f0⟩ := hrb 0 (by omega)
          obtain ⟨g1, f1⟩ := hrb 1 (by omega)
          obtain ⟨g2, f2⟩ := hrb 2 (by omega)
          obtain ⟨g3, f3⟩ := hrb 3 (by omega)
          clear hrb hb3 hw
          go_wp2_with fail
          obtain ⟨r0, r1, r2, r3⟩ := HSET.out
          refine bodyPost_ret (v := .tuple #[countV 0 0 0 none 0 0, .int .i64 4]) (by simp [results, Tryz.results11, go_sem, r0, r1, r2, r3]) rfl ⟨Or.inl ⟨HW.out, rfl⟩, HBF.out⟩

end Go.Proofs.YtehiabiahipkhaaGreat

namespace Go.Proofs.YtehiabiahipkhaaGreat
open Go
set_option linter.unusedVariables false
set_option linter.unusedSimpArgs false

/-- A world that lies behind wo: whatever was there is as it was. -/
structure In (wo : World) where
  w : World
  h : Bel wo w
instance inhab_in (wo : World) : Nonempty (In wo) := ⟨⟨wo, Bel.refl wo⟩⟩
/-- The class of these worlds. -/
def InC (wo : World) (w' : World) : Prop := ∃ v : In wo, w' = v.w

section
variable {P : Program} {ops : Array Oper} {md : Region.Mode} {C : World → Prop}

/-- The first operations in any order, then L. -/
def wpAnyT (P : Program) (md : Region.Mode) (ops : Array Oper) (C : World → Prop) (n : Nat) (L : Array Bool → Act → Prop) : Nat → Array Bool → Act → Prop
  | 0, listed, a => L listed a
  | f + 1, listed, a => Region.ready md ops listed ≠ [] ∧ ∀ i ∈ Region.ready md ops listed, i < n ∧ qOp P ops C i (wpAnyT P md ops C n L f (listed.setIfInBounds i true)) a

theorem wpAny_of_T {n g : Nat} {L : Array Bool → Act → Prop} {Q : Exit → Act → World → Prop} (hL : ∀ listed a w, C w → L listed a → wpAny P md ops Q g listed a w) :
    ∀ (f : Nat) (listed : Array Bool) (a : Act) (w : World), C w → wpAnyT P md ops C n L f listed a → wpAny P md ops Q (f + g) listed a w
  | 0, listed, a, w, hw, h => by rw [Nat.zero_add]; exact hL _ _ _ hw h
  | f + 1, listed, a, w, hw, h => by
    rw [show f + 1 + g = (f + g) + 1 by omega]
    exact ⟨fun h0 => absurd h0 h.1, fun i hi => wpOp_of_qOp hw (fun a' w' hw' h' => wpAny_of_T hL f _ a' w' hw' h') (h.2 i hi).2⟩

theorem wpAnyT_first {n i : Nat} {oi : Oper} {v : Value} {L : Array Bool → Act → Prop} (hi : ops[i]? = some oi) (hsel : ∀ (j : Nat) (o : Oper) cs b, ops[j]? = some o → o.op ≠ .select cs b)
    (hs : Region.sinkB md ops n = true) (hc : Region.chainB md ops n = true) (hn : n < ops.size) (hin : i < n) (hdone : ∀ listed a, L listed a → ∀ j ∈ Region.ready md ops listed, n ≤ j) :
    ∀ (f : Nat) (listed : Array Bool) (a : Act), HeadInv md ops n listed →
      (∀ j oj, ops[j]? = some oj → j ≠ i → listed.getD j true = false → (∀ e ∈ oj.after, Region.binds md e = true → e.on ≠ i) → oi.apart ops oj = true) →
      i ∈ Region.ready md ops listed → YieldsIn P ops C oi v a →
      wpAnyT P md ops C n L f (listed.setIfInBounds i true) (a.put oi.dst v) → wpAnyT P md ops C n L (f + 1) listed a := by
  intro f
  induction f with
  | zero =>
    intro listed a inv _ hr hy H
    have hun := (mem_ready.1 hr).1
    refine ⟨fun h => (by rw [h] at hr; cases hr), fun j hj => ?_⟩
    have hjn : j < n := Nat.lt_of_not_le fun h => tail_waits hs hc hn inv _ i rfl hin hun j h hj
    refine ⟨hjn, ?_⟩
    by_cases hji : j = i
    · subst hji; exact hy.qOp hi H
    · have := hdone _ _ H j (ready_mono hj hji)
      omega
  | succ f ih =>
    intro listed a inv hfree hr hy H
    have hun := (mem_ready.1 hr).1
    refine ⟨fun h => (by rw [h] at hr; cases hr), fun j hj => ?_⟩
    have hjn : j < n := Nat.lt_of_not_le fun h => tail_waits hs hc hn inv _ i rfl hin hun j h hj
    refine ⟨hjn, ?_⟩
    by_cases hji : j = i
    · subst hji; exact hy.qOp hi H
    · obtain ⟨hjun, oj, hoj, hall⟩ := mem_ready.1 hj
      have hno : ∀ e ∈ oj.after, Region.binds md e = true → e.on ≠ i := fun e he hb heq => by
        have h1 := hall e he hb
        rw [heq, getD_both hun] at h1
        cases h1
      refine qOp_mono (fun a' h3 => ih (listed.setIfInBounds j true) a' (inv.set hj hjn) ?_ (ready_mono hr (Ne.symm hji)) h3.1 ?_)
        (qOp_put hoj (hfree j oj hoj hji hjun hno) (fun cs b => hsel i oi cs b hi) (fun cs b => hsel j oj cs b hoj) hy ((H.2 j (ready_mono hj hji)).2))
      · intro k ok hk hki hun2 hno2
        refine hfree k ok hk hki ?_ hno2
        by_cases hjk : j = k
        · subst hjk; exact hjun
        · rw [getD_set_ne true hjk] at hun2; exact hun2
      · rw [Array.setIfInBounds_comm _ _ hji]
        exact h3.2

theorem wpAnyT_lex {n g : Nat} {R : Act → Prop} (hsel : Region.noSelect ops = true) (hs : Region.sinkB md ops n = true) (hc : Region.chainB md ops n = true) (hn : n < ops.size) :
    ∀ (l : List Oper) (k : Nat) (listed : Array Bool) (a : Act), (∀ j, j < l.length → l[j]? = ops[k + j]?) → k + l.length = n → HeadInv md ops n listed →
    Region.lexHead md ops g l.length k listed = true → wpQuiet P ops C R l a →
    wpAnyT P md ops C n (fun listed' a' => Region.seqB md ops g n listed' = true ∧ R a') l.length listed a
  | [], k, listed, a, _, hk, _, hB, h => by
    obtain rfl : k = n := by simpa using hk
    exact ⟨by simpa [Region.lexHead] using hB, h⟩
  | o :: l, k, listed, a, hl, hk, inv, hB, h => by
    have h0 : ops[k]? = some o := by simpa using (hl 0 (by simp)).symm
    simp only [List.length_cons, Region.lexHead, Bool.and_eq_true] at hB hk
    have hr : k ∈ Region.ready md ops listed := by simpa using hB.1.1
    have hq : qOp P ops C k (wpQuiet P ops C R l) a := by unfold qOp; simp only [h0]; exact h
    obtain ⟨v, hy, hK⟩ := yieldsIn_of_qOp h0 hq
    exact wpAnyT_first h0 (Region.noSelect_spec hsel) hs hc hn (by omega) (fun listed' a' hL => seqB_ready hL.1) l.length listed a inv (Region.free_spec h0 hB.1.2) hr hy
      (wpAnyT_lex hsel hs hc hn l (k + 1) _ _ (fun j hj => by have := hl (j + 1) (by simp; omega); simpa [Nat.add_assoc, Nat.add_comm 1 j] using this) (by omega) (inv.set hr (by omega)) hB.2 hK)

/-- THE TEXT's ORDER SERVES EVERY ORDER: the first n operations read and call; what is left comes in one order. -/
theorem wp_region_tail {id : Nat} {Q : Exit → Act → World → Prop} {a : Act} {w : World} {l : List Oper} (n : Nat) (hm : P.follows .mixedOrders = true) (hB : Region.lexTailB .any l.toArray n = true) (hC : C w.drew)
    (h : wpQuiet P l.toArray C (fun a' => ∀ w', C w' → wpList P l.toArray Q (l.drop n) a' w') (l.take n) a) : (Code.region id l.toArray true).wp P Q a w := by
  simp only [Region.lexTailB, Bool.and_eq_true, decide_eq_true_eq] at hB
  obtain ⟨⟨⟨⟨hsel, hn⟩, hs⟩, hc⟩, hlex⟩ := hB
  have hn' : n < l.length := by simpa using hn
  have htl : (l.take n).length = n := by simp; omega
  have hdl : (l.drop n).length = l.toArray.size - n := by simp
  have inv0 : HeadInv .any l.toArray n (Array.replicate l.toArray.size false) :=
    ⟨by simp, fun j oj _ hl => (by rw [getD_replicate_false] at hl; cases hl), fun t _ ht => getD_in (by simpa using ht) (getD_replicate_false _ _)⟩
  have H := wpAnyT_lex (md := .any) (g := l.toArray.size - n) hsel hs hc hn (l.take n) 0 _ a (fun j hj => by
    have hj' : j < n := by rw [htl] at hj; exact hj
    simp [hj']) (by simpa using htl) inv0 (by rw [htl]; exact hlex) h
  refine wp_region_any hm ?_
  have := wpAny_of_T (Q := Q) (g := l.toArray.size - n) (fun listed a' w' hw' hL => by
    have := wpAny_of_seq (md := .any) (Q' := Q) (l.drop n) n listed a' w' (fun j => by simp [List.getElem?_drop]) (by rw [hdl]; exact hL.1) (hL.2 w' hw')
    rwa [hdl] at this) _ _ _ _ hC H
  rw [htl, show n + (l.toArray.size - n) = l.toArray.size by omega] at this
  exact this

/-- The same at the class of the worlds behind w. -/
theorem wp_in_tail {id : Nat} {Q : Exit → Act → World → Prop} {a : Act} {w : World} {l : List Oper} (n : Nat) (hm : P.follows .mixedOrders = true) (hB : Region.lexTailB .any l.toArray n = true)
    (h : wpQuiet P l.toArray (fun w' => ∃ v : In w, w' = v.w) (fun a' => ∀ v : In w, wpList P l.toArray Q (l.drop n) a' v.w) (l.take n) a) : (Code.region id l.toArray true).wp P Q a w :=
  wp_region_tail (C := fun w' => ∃ v : In w, w' = v.w) n hm hB ⟨⟨w.drew, (Bel.refl w).drew⟩, rfl⟩ (by
    have e : (fun a' => ∀ w', (∃ v : In w, w' = v.w) → wpList P l.toArray Q (l.drop n) a' w') = fun a' => ∀ v : In w, wpList P l.toArray Q (l.drop n) a' v.w := by
      funext a'; exact propext ⟨fun h v => h _ ⟨v, rfl⟩, fun h w' ⟨v, e⟩ => e ▸ h v⟩
    rw [e]; exact h)
/-- No tail. -/
theorem wp_in {id : Nat} {Q : Exit → Act → World → Prop} {a : Act} {w : World} {l : List Oper} (hm : P.follows .mixedOrders = true) (hB : Region.lexB .any l.toArray = true)
    (h : wpQuiet P l.toArray (fun w' => ∃ v : In w, w' = v.w) (fun a' => ∀ v : In w, Q .normal a' v.w) l a) : (Code.region id l.toArray true).wp P Q a w :=
  wp_region_quiet (C := fun w' => ∃ v : In w, w' = v.w) hm hB ⟨⟨w.drew, (Bel.refl w).drew⟩, rfl⟩ (by
    have e : (fun a' => ∀ w', (∃ v : In w, w' = v.w) → Q .normal a' w') = fun a' => ∀ v : In w, Q .normal a' v.w := by
      funext a'; exact propext ⟨fun h v => h _ ⟨v, rfl⟩, fun h w' ⟨v, e⟩ => e ▸ h v⟩
    rw [e]; simpa using h)

theorem Calls.in_of {P : Program} {f : FuncId} {args : Array Value} {wo : World} {x : In wo} {u : Value} (h : Calls P f args x.w fun e w' => e = .returned u ∧ Bel x.w w') :
    Calls P f args x.w fun e w'' => e = .returned u ∧ ∃ v : In wo, w'' = v.w :=
  h.mono fun e w' ⟨a, b⟩ => ⟨a, ⟨w', x.h.trans b⟩, rfl⟩
theorem In.cellv {wo : World} {p : Addr} {u : Value} (h : wo.cell? p = some u) (v : In wo) : v.w.cell? p = some u := v.h.cellv h
theorem In.frozen {wo : World} {p : Addr} {u : Value} (h : wo.cell? p = some u) (hf : wo.frozen? p = false) (v : In wo) : v.w.frozen? p = false := (v.h.frozen (World.block_lt_of_cell? _ _ h)).trans hf
end

end Go.Proofs.YtehiabiahipkhaaGreat
