/-
  The walk of ntt.Fold: numbers within the bound.
-/
import Derived.Test.YtehiabiahipkhaaGreatA6
namespace Go.Proofs.YtehiabiahipkhaaGreat
open Go.RowKit
set_option linter.unusedVariables false
set_option linter.unusedSimpArgs false

theorem filled_all' {l : List Int} {n : Nat} (h : l.length = n) : filled l n 0 = l := by subst h; exact filled_all l 0
theorem info_i : (Tryz.prog.info? 3).map (fun i => (i.zero, i.size, i.bytes)) = some (some (iV 0), 1, 8) := by kernel_rfl
/-- A new row of noughts. -/
theorem arr_made (W : World) (L : Nat) (h : L ≤ 262144) : IArr (W.alloc (.cells (madeCells #[.int .i64 0] L) 3)) W.heap.size L (List.replicate L 0) :=
  Arr.of_own (base := 0) (by
    have := World.ownsRow_lit (base := 0) (size := 1) (e := 3) W (madeCells #[.int .i64 0] L) L (Nat.zero_le _) (by unfold maxLen; omega) (by simp [madeCells])
    rw [toList_madeCells_one] at this
    simpa [List.map_replicate] using this)
/-- A new variable that holds a Counts of noughts. -/
def MadeC (w0 wx : World) (n0 n1 n2 L : Nat) (v : Value) : Prop :=
  ∃ p gc, v = .pointer (some ⟨p, 0, none⟩) ∧ CVar wx p n0 n1 n2 (some ⟨gc, 0, none⟩) L L ∧ IArr wx gc L (List.replicate L 0) ∧ Bel w0 wx ∧ w0.heap.size ≤ p ∧ w0.heap.size ≤ gc ∧ p ≠ gc
theorem made1 (W : World) (n0 n1 n2 L : Nat) (h : L ≤ 262144) :
    MadeC W ((W.alloc (.cells (madeCells #[.int .i64 0] L) 3)).alloc (.cells #[.int .i64 n0, .int .i64 n1, .int .i64 n2, .slice (some ⟨W.heap.size, 0, none⟩) L L] 26)).drew n0 n1 n2 L (.pointer (some ⟨W.heap.size + 1, 0, none⟩)) := by
  have hz : (W.alloc (.cells (madeCells #[.int .i64 0] L) 3)).heap.size = W.heap.size + 1 := size_alloc' _ _
  refine ⟨W.heap.size + 1, W.heap.size, rfl, ?_, ((arr_made W L h).alloc _).drew, (((Bel.refl W).alloc _).alloc _).drew, by omega, by omega, by omega⟩
  rw [← hz]
  exact cvar_new _ _ _ _ _ _ _ _
theorem made2 (W : World) (n0 n1 n2 L : Nat) (h : L ≤ 262144) :
    MadeC W ((W.alloc (.cells #[.int .i64 n0, .int .i64 n1, .int .i64 n2, .slice (some ⟨W.heap.size + 1, 0, none⟩) L L] 26)).alloc (.cells (madeCells #[.int .i64 0] L) 3)).drew n0 n1 n2 L (.pointer (some ⟨W.heap.size, 0, none⟩)) := by
  have hz : (W.alloc (.cells #[.int .i64 n0, .int .i64 n1, .int .i64 n2, .slice (some ⟨W.heap.size + 1, 0, none⟩) L L] 26)).heap.size = W.heap.size + 1 := size_alloc' _ _
  refine ⟨W.heap.size, W.heap.size + 1, rfl, (cvar_new W _ _ _ _ _ _ _).bel ((Bel.refl _).alloc _).drew, ?_, (((Bel.refl W).alloc _).alloc _).drew, by omega, by omega, by omega⟩
  have := (arr_made (W.alloc (.cells #[.int .i64 n0, .int .i64 n1, .int .i64 n2, .slice (some ⟨W.heap.size + 1, 0, none⟩) L L] 26)) L h).drew
  rw [hz] at this
  exact this

set_option maxHeartbeats 4000000 in
set_option maxRecDepth 100000 in
theorem fold_ok (b1 o1 c1 b2 o2 c2 n0 n1 n2 L : Nat) (ps bs : List Int) (w : World) (hs : S3 n0 n1 n2 L) (hl1 : ps.length = L) (hl2 : bs.length = L) (hw1 : Within ps) (hw2 : Within bs)
    (hx1 : ∀ i, i < L → w.cell? ⟨b1, o1 + i, none⟩ = some (iV (ps.getD i 0))) (hx2 : ∀ i, i < L → w.cell? ⟨b2, o2 + i, none⟩ = some (iV (bs.getD i 0))) :
    Calls Tryz.prog 32 #[countV n0 n1 n2 (some ⟨b1, o1, none⟩) L c1, countV n0 n1 n2 (some ⟨b2, o2, none⟩) L c2] w fun e w' =>
      (∃ g c, e = .returned (.tuple #[countV n0 n1 n2 (some ⟨g, 0, none⟩) L c, .int .i64 0]) ∧ w.heap.size ≤ g ∧ IArr w' g c (foldN n0 n1 n2 L ps bs)) ∧ Bel w w' := by
  obtain ⟨i0, hi, hz0, hz1, hz2⟩ := info_parts' info_n
  have HC1 := Lib.hid (fun (W : World) (h : Bel w W) => counts_ok b1 o1 c1 n0 n1 n2 L ps W hs hl1 hw1 (fun i hi => h.cellv (hx1 i hi)))
  have HC2 := Lib.hid (fun (W : World) (h : Bel w W) => counts_ok b2 o2 c2 n0 n1 n2 L bs W hs hl2 hw2 (fun i hi => h.cellv (hx2 i hi)))
  have HF1 := Lib.hid (fun (W : World) (h : Bel w W) => forward_any b1 o1 c1 n0 n1 n2 L ps W hs hl1 hw1.abs (fun i hi => h.cellv (hx1 i hi)))
  have HF2 := Lib.hid (fun (W : World) (h : Bel w W) => forward_any b2 o2 c2 n0 n1 n2 L bs W hs hl2 hw2.abs (fun i hi => h.cellv (hx2 i hi)))
  have HS := Lib.hid hs
  have HX1 : Hid ((fS3 n0 n1 n2 L ps).length = L) := by have := fS_length n0 n1 n2 L ps 3; unfold Hid; rw [← hl1]; rw [← hl1] at this; exact this
  have HX2 : Hid ((fS3 n0 n1 n2 L bs).length = L) := by have := fS_length n0 n1 n2 L bs 3; unfold Hid; rw [← hl2]; rw [← hl2] at this; exact this
  have HP1 : Hid (∀ i, (fS3 n0 n1 n2 L ps).getD i 0 < pr) := fun i => all_getD (fS_lt (n0 := n0) (n1 := n1) (n2 := n2) (L := L) hw1.abs 3) i
  have HP2 : Hid (∀ i, (fS3 n0 n1 n2 L bs).getD i 0 < pr) := fun i => all_getD (fS_lt (n0 := n0) (n1 := n1) (n2 := n2) (L := L) hw2.abs 3) i
  have hL := hs.l
  clear hs hl1 hl2 hw1 hw2 hx1 hx2
  go_enter Tryz.func32, Tryz.ntmps32
  go_wp2_with fail
  have K2 : Hid (CVar (((w.alloc (.cells #[.int .i64 n0, .int .i64 n1, .int .i64 n2, .slice (some ⟨b1, o1, none⟩) L c1] 26)).alloc (.cells #[.int .i64 n0, .int .i64 n1, .int .i64 n2, .slice (some ⟨b2, o2, none⟩) L c2] 26)).alloc (.cells #[.int .i64 0, .int .i64 0, .int .i64 0, .slice none 0 0] 26)) w.heap.size n0 n1 n2 (some ⟨b1, o1, none⟩) L c1) := ((cvar_new w _ _ _ _ _ _ _).bel ((Bel.refl _).alloc _)).bel ((Bel.refl _).alloc _)
  have hz1 : (w.alloc (.cells #[.int .i64 n0, .int .i64 n1, .int .i64 n2, .slice (some ⟨b1, o1, none⟩) L c1] 26)).heap.size = w.heap.size + 1 := size_alloc' _ _
  have K3 : Hid (CVar (((w.alloc (.cells #[.int .i64 n0, .int .i64 n1, .int .i64 n2, .slice (some ⟨b1, o1, none⟩) L c1] 26)).alloc (.cells #[.int .i64 n0, .int .i64 n1, .int .i64 n2, .slice (some ⟨b2, o2, none⟩) L c2] 26)).alloc (.cells #[.int .i64 0, .int .i64 0, .int .i64 0, .slice none 0 0] 26)) (w.heap.size + 1) n0 n1 n2 (some ⟨b2, o2, none⟩) L c2) := by
    rw [← hz1]; exact (cvar_new (w.alloc (.cells #[.int .i64 n0, .int .i64 n1, .int .i64 n2, .slice (some ⟨b1, o1, none⟩) L c1] 26)) _ _ _ _ _ _ _).bel ((Bel.refl _).alloc _)
  have hz2 : ((w.alloc (.cells #[.int .i64 n0, .int .i64 n1, .int .i64 n2, .slice (some ⟨b1, o1, none⟩) L c1] 26)).alloc (.cells #[.int .i64 n0, .int .i64 n1, .int .i64 n2, .slice (some ⟨b2, o2, none⟩) L c2] 26)).heap.size = w.heap.size + 1 + 1 := by rw [size_alloc', hz1]
  have K4 : Hid (R4 (((w.alloc (.cells #[.int .i64 n0, .int .i64 n1, .int .i64 n2, .slice (some ⟨b1, o1, none⟩) L c1] 26)).alloc (.cells #[.int .i64 n0, .int .i64 n1, .int .i64 n2, .slice (some ⟨b2, o2, none⟩) L c2] 26)).alloc (.cells #[.int .i64 0, .int .i64 0, .int .i64 0, .slice none 0 0] 26)) (w.heap.size + 1 + 1)) := by
    rw [← hz2]; exact r4_new ((w.alloc (.cells #[.int .i64 n0, .int .i64 n1, .int .i64 n2, .slice (some ⟨b1, o1, none⟩) L c1] 26)).alloc (.cells #[.int .i64 n0, .int .i64 n1, .int .i64 n2, .slice (some ⟨b2, o2, none⟩) L c2] 26)) _ _ _ _ _
  have HB : Hid (Bel w (((w.alloc (.cells #[.int .i64 n0, .int .i64 n1, .int .i64 n2, .slice (some ⟨b1, o1, none⟩) L c1] 26)).alloc (.cells #[.int .i64 n0, .int .i64 n1, .int .i64 n2, .slice (some ⟨b2, o2, none⟩) L c2] 26)).alloc (.cells #[.int .i64 0, .int .i64 0, .int .i64 0, .slice none 0 0] 26))) := (((Bel.refl w).alloc _).alloc _).alloc _
  clear hz1 hz2
  generalize World.alloc _ _ = W at K2 K3 K4 HB ⊢
  generalize hp2 : w.heap.size = p2 at K2 K3 K4 ⊢
  have HP4 : Hid (w.heap.size ≤ p2 + 1 + 1) := by unfold Hid; omega
  have HP3 : Hid (p2 < p2 + 1 ∧ p2 + 1 < p2 + 1 + 1) := by unfold Hid; omega
  clear hp2
  generalize p2 + 1 = p3 at K3 K4 HP4 HP3 ⊢
  generalize p3 + 1 = p4 at K4 HP4 HP3 ⊢
  have hb0 : Bel W W.drew := (Bel.refl W).drew
  go_region_held3 (fun w' => ((w'.cell? ⟨p2, 0, none⟩ = some (.int .i64 n0) ∧ w'.cell? ⟨p2, 1, none⟩ = some (.int .i64 n1) ∧ w'.cell? ⟨p2, 2, none⟩ = some (.int .i64 n2) ∧ w'.cell? ⟨p2, 3, none⟩ = some (.slice (some ⟨b1, o1, none⟩) L c1)) ∧ w'.cell? ⟨p3, 0, none⟩ = some (.int .i64 n0) ∧ w'.cell? ⟨p3, 1, none⟩ = some (.int .i64 n1) ∧ w'.cell? ⟨p3, 2, none⟩ = some (.int .i64 n2) ∧ w'.cell? ⟨p3, 3, none⟩ = some (.slice (some ⟨b2, o2, none⟩) L c2))) (exact ⟨K2.out.bel (by assumption), K3.out.bel (by assumption)⟩) (first
    | (go_at_call 48; (with_reducible refine (callsFrom (HC1.out _ (HB.out.trans (by assumption))) (by assumption)).mono ?_); rintro e w' ⟨rfl, hb⟩)
    | (go_at_call 48; (with_reducible refine (callsFrom (HC2.out _ (HB.out.trans (by assumption))) (by assumption)).mono ?_); rintro e w' ⟨rfl, hb⟩))
  obtain ⟨x0, x1, x2, x3⟩ := K2.out.bel hb
  obtain ⟨y0, y1, y2, y3⟩ := K3.out.bel hb
  have HB1 := Lib.hid hb
  clear hb hb0
  obtain ⟨w1, rfl⟩ : ∃ w1 : World, w1 = w' := ⟨_, rfl⟩
  go_wp2_with fail
  clear x0 x1 x2 x3 y0 y1 y2 y3
  have hb0 : Bel w1 w1.drew := (Bel.refl w1).drew
  go_region_held3 (fun w' => ((w'.cell? ⟨p2, 0, none⟩ = some (.int .i64 n0) ∧ w'.cell? ⟨p2, 1, none⟩ = some (.int .i64 n1) ∧ w'.cell? ⟨p2, 2, none⟩ = some (.int .i64 n2) ∧ w'.cell? ⟨p2, 3, none⟩ = some (.slice (some ⟨b1, o1, none⟩) L c1)) ∧ w'.cell? ⟨p3, 0, none⟩ = some (.int .i64 n0) ∧ w'.cell? ⟨p3, 1, none⟩ = some (.int .i64 n1) ∧ w'.cell? ⟨p3, 2, none⟩ = some (.int .i64 n2) ∧ w'.cell? ⟨p3, 3, none⟩ = some (.slice (some ⟨b2, o2, none⟩) L c2))) (exact ⟨K2.out.bel (HB1.out.trans (by assumption)), K3.out.bel (HB1.out.trans (by assumption))⟩) (first
    | (go_at_call 49; (with_reducible refine (HF1.out _ (HB.out.trans (HB1.out.trans (by assumption)))).mono ?_); rintro e w' ⟨⟨gx, cx, rfl, hlx, hgx, hax⟩, hbx⟩; have hb := Bel.trans (by assumption) hbx; have hgx2 : w1.heap.size ≤ gx := Nat.le_trans (Bel.size (by assumption)) hgx)
    | (go_at_call 49; (with_reducible refine (HF2.out _ (HB.out.trans (HB1.out.trans (by assumption)))).mono ?_); rintro e w' ⟨⟨gy, cy, rfl, hly, hgy, hay⟩, hby⟩; have hb := Bel.trans (by assumption) hby))
  have HAX := Lib.hid (hax.bel hby)
  have HAY := Lib.hid hay
  have hxy : gx < gy := Nat.lt_of_lt_of_le (Arr.lt hax) hgy
  have HB2 := Lib.hid (HB1.out.trans hb)
  have hwx : W.heap.size ≤ gx := Nat.le_trans HB1.out.size hgx2
  clear hax hay hb hbx hby hlx hly hgx hgy hgx2 hb0 HF1 HF2 HC1 HC2 HB1
  obtain ⟨w2, rfl⟩ : ∃ w2 : World, w2 = w' := ⟨_, rfl⟩
  go_wp2_with fail
  have HU : Hid (∀ k, k < L → (uS0 n0 n1 n2 L ps bs).getD k 0 = mulP ((fS3 n0 n1 n2 L ps).getD k 0) ((fS3 n0 n1 n2 L bs).getD k 0)) := fun k hk => by simp [uS0, hk]
  have HUL := Lib.hid (uS0_length n0 n1 n2 L ps bs)
  go_loopw [50] (fun i wr => ∃ k : Nat, k ≤ L ∧ i = .int .i64 k ∧ NArr wr gx cx (mixA (fS3 n0 n1 n2 L ps) (uS0 n0 n1 n2 L ps bs) k) ∧ NArr wr gy cy (fS3 n0 n1 n2 L bs) ∧ Bel W wr) (fun i _ => L - (intOf i).toNat)
  case atStart => exact ⟨0, Nat.zero_le _, rfl, HAX.out.ext (mixA_zero _ _).symm, HAY.out, HB2.out⟩
  case round =>
    clear HAX HAY HB2
    obtain ⟨k, hk, rfl, hax, hay, hbw⟩ := hrel
    by_cases hlt : k < L
    · have hcx := hax.cell (i := k) (by rw [mixA_length, HX1.out]; exact hlt) 0
      rw [mixA_get _ _ _ (by rw [HX1.out]; exact hlt)] at hcx
      have hfx := hax.frozen k
      have hcy := hay.cell (i := k) (by rw [HX2.out]; exact hlt) 0
      have HM := Lib.hid (fun w => nmul_any ((fS3 n0 n1 n2 L ps).getD k 0) ((fS3 n0 n1 n2 L bs).getD k 0) (pr_small (HP1.out k)) (pr_small (HP2.out k)) w)
      rw [← HU.out k hlt] at HM
      generalize (fS3 n0 n1 n2 L ps).getD k 0 = x at hcx HM
      generalize (fS3 n0 n1 n2 L bs).getD k 0 = y at hcy HM
      obtain ⟨u, hu⟩ : ∃ u, (uS0 n0 n1 n2 L ps bs).getD k 0 = u := ⟨_, rfl⟩
      rw [hu] at HM
      have HUU := Lib.hid hu
      have HX := Lib.hid hax
      have HY := Lib.hid hay
      have HBW := Lib.hid hbw
      have hki : (k : Int) < L := by omega
      have hbd : Bel wr wr.drew := (Bel.refl wr).drew
      obtain ⟨wo, rfl⟩ : ∃ wo : World, wo = wr := ⟨_, rfl⟩
      clear hax hay hbw hu
      go_wp2_with fail
      go_region_with (go_at_call 50; (with_reducible refine (HM.out _).mono ?_); rintro e w3 ⟨rfl, hb3⟩; have hc3 := hb3.cellv hcx; have hf3 := (hb3.frozen (World.block_lt_of_cell? _ _ hcx)).trans hfx)
      all_goals (
        go_wp2_with fail
        go_roundw
        case rel =>
          have hb4 := hbd.trans hb3
          exact ⟨k + 1, by omega, by go_num, ((HX.out.bel hb4).store k u).ext (by rw [← HUU.out]; exact mixA_succ _ _ k), (HY.out.bel hb4).setOther (by show gx ≠ gy; omega) _, (HBW.out.trans hb4).setCell hwx _⟩
        case measure => simp [intOf]; omega)
    · have hkl : L = k := by omega
      subst hkl
      have HV : Hid (NArr wr gx cx (uS n0 n1 n2 L ps bs 0)) := hax.ext (by
        have e := mixA_all (fS3 n0 n1 n2 L ps) (uS0 n0 n1 n2 L ps bs) (by rw [HX1.out, HUL.out])
        rw [HX1.out] at e; exact e)
      have HBW := Lib.hid hbw
      clear hax hay hbw HU HUL HX1 HX2 HP1 HP2
      go_wp2_with fail
      go_loopw [66] (fun i wq => ∃ e : Nat, e ≤ 3 ∧ i = .int .i64 e ∧ NArr wq gx cx (uS n0 n1 n2 L ps bs e) ∧ Bel W wq) (fun i _ => 3 - (intOf i).toNat)
      case atStart => exact ⟨0, by omega, rfl, HV.out, HBW.out⟩
      case round =>
       clear HV HBW
       obtain ⟨e, he, rfl, hv, hbw⟩ := hrel
       rcases (by omega : e = 0 ∨ e = 1 ∨ e = 2 ∨ e = 3) with rfl | rfl | rfl | rfl
       · obtain ⟨x0, x1, x2, x3⟩ := K2.out.bel hbw
         have HV := Lib.hid hv
         have HBQ := Lib.hid hbw
         obtain ⟨wq, rfl⟩ : ∃ wq : World, wq = wr := ⟨_, rfl⟩
         clear hv hbw
         go_wp2_with fail
         clear x0 x1 x2 x3
         refine (nalong_unl 0 gx cx n0 n1 n2 0 n0 (n1 * n2) (1) L (uS n0 n1 n2 L ps bs 0) unlineN (fun _ => True) W wq (uS_length _ _ _ _ _ _ _)
           (by omega) (by simp) ⟨HS.out.b.1, HS.out.b.2.1⟩ ⟨HS.out.c.1, HS.out.c.2.1⟩ HS.out.a.1 HS.out.a.2.1 (by rw [← HS.out.p]; rw [Nat.mul_one, ← Nat.mul_assoc]) hL (uS_lt _ _ _ _ _ _ _) (fun l => unlineN_lt _) (fun l hl => by rw [unlineN_length (by rw [hl]; exact HS.out.a.1) (by rw [hl]; exact HS.out.a.2.1), hl])
           (fun _ _ _ h => h) (fun _ _ _ h => h) (fun _ _ _ _ _ h => h) trivial
           (fun W' b' ys _ hl hp hc => unline_any b' 0 n0 n0 ys W' hl HS.out.a.2.2 HS.out.a.1 HS.out.a.2.1 hp hc) HV.out HBQ.out hwx).mono ?_
         rintro e1 w7 ⟨rfl, hv7, hb7, _⟩
         have HV7 : Hid (NArr w7 gx cx (uS n0 n1 n2 L ps bs 1)) := hv7
         have HB7 := Lib.hid hb7
         clear hv7 hb7 HV HBQ
         go_wp2_with fail
         go_roundw
         case rel => exact ⟨1, by omega, rfl, HV7.out, HB7.out⟩
         case measure => simp [intOf]
       · obtain ⟨x0, x1, x2, x3⟩ := K2.out.bel hbw
         have HV := Lib.hid hv
         have HBQ := Lib.hid hbw
         obtain ⟨wq, rfl⟩ : ∃ wq : World, wq = wr := ⟨_, rfl⟩
         clear hv hbw
         go_wp2_with fail
         clear x0 x1 x2 x3
         refine (nalong_unl 0 gx cx n0 n1 n2 1 n1 (n2) (n0) L (uS n0 n1 n2 L ps bs 1) unlineN (fun _ => True) W wq (uS_length _ _ _ _ _ _ _)
           (by omega) (by simp) ⟨HS.out.b.1, HS.out.b.2.1⟩ ⟨HS.out.c.1, HS.out.c.2.1⟩ HS.out.b.1 HS.out.b.2.1 (by rw [← HS.out.p]; rw [Nat.mul_assoc n0, Nat.mul_comm n0]) hL (uS_lt _ _ _ _ _ _ _) (fun l => unlineN_lt _) (fun l hl => by rw [unlineN_length (by rw [hl]; exact HS.out.b.1) (by rw [hl]; exact HS.out.b.2.1), hl])
           (fun _ _ _ h => h) (fun _ _ _ h => h) (fun _ _ _ _ _ h => h) trivial
           (fun W' b' ys _ hl hp hc => unline_any b' 0 n1 n1 ys W' hl HS.out.b.2.2 HS.out.b.1 HS.out.b.2.1 hp hc) HV.out HBQ.out hwx).mono ?_
         rintro e1 w7 ⟨rfl, hv7, hb7, _⟩
         have HV7 : Hid (NArr w7 gx cx (uS n0 n1 n2 L ps bs 2)) := hv7
         have HB7 := Lib.hid hb7
         clear hv7 hb7 HV HBQ
         go_wp2_with fail
         go_roundw
         case rel => exact ⟨2, by omega, rfl, HV7.out, HB7.out⟩
         case measure => simp [intOf]
       · obtain ⟨x0, x1, x2, x3⟩ := K2.out.bel hbw
         have HV := Lib.hid hv
         have HBQ := Lib.hid hbw
         obtain ⟨wq, rfl⟩ : ∃ wq : World, wq = wr := ⟨_, rfl⟩
         clear hv hbw
         go_wp2_with fail
         clear x0 x1 x2 x3
         refine (nalong_unl 0 gx cx n0 n1 n2 2 n2 (1) (n0 * n1) L (uS n0 n1 n2 L ps bs 2) unlineN (fun _ => True) W wq (uS_length _ _ _ _ _ _ _)
           (by omega) (by simp) ⟨HS.out.b.1, HS.out.b.2.1⟩ ⟨HS.out.c.1, HS.out.c.2.1⟩ HS.out.c.1 HS.out.c.2.1 (by rw [← HS.out.p]; rw [Nat.mul_one, Nat.mul_comm]) hL (uS_lt _ _ _ _ _ _ _) (fun l => unlineN_lt _) (fun l hl => by rw [unlineN_length (by rw [hl]; exact HS.out.c.1) (by rw [hl]; exact HS.out.c.2.1), hl])
           (fun _ _ _ h => h) (fun _ _ _ h => h) (fun _ _ _ _ _ h => h) trivial
           (fun W' b' ys _ hl hp hc => unline_any b' 0 n2 n2 ys W' hl HS.out.c.2.2 HS.out.c.1 HS.out.c.2.1 hp hc) HV.out HBQ.out hwx).mono ?_
         rintro e1 w7 ⟨rfl, hv7, hb7, _⟩
         have HV7 : Hid (NArr w7 gx cx (uS n0 n1 n2 L ps bs 3)) := hv7
         have HB7 := Lib.hid hb7
         clear hv7 hb7 HV HBQ
         go_wp2_with fail
         go_roundw
         case rel => exact ⟨3, by omega, rfl, HV7.out, HB7.out⟩
         case measure => simp [intOf]
       · have HV := Lib.hid hv
         have HBW := Lib.hid hbw
         obtain ⟨x0, x1, x2, x3⟩ := K2.out.bel hbw
         have hmk : ∀ W : World, (Instr.makeSlice 24 (.int .i64 (L : Int)) (.int .i64 (L : Int))).run Tryz.prog W = .ok (.slice (some ⟨W.heap.size, 0, none⟩) L L) (W.alloc (.cells (madeCells #[.int .i64 0] L) 3)) := by
           obtain ⟨j0, hj, hj0, hj1, hj2⟩ := info_parts' info_i
           intro W
           have := run_make (P := Tryz.prog) W 24 3 j0 _ Tryz.underlying24 hj hj0 .i64 .i64 L L (by omega) (by omega) (by rw [hj2]; omega) (by omega)
           rw [hj1, Nat.mul_one] at this
           exact this
         obtain ⟨w5, rfl⟩ : ∃ w5 : World, w5 = wr := ⟨_, rfl⟩
         have hp2l : p2 < w5.heap.size := by simpa using World.block_lt_of_cell? _ _ x0
         have hp2m : p2 < w5.heap.size + 1 := by omega
         clear hv hbw
         go_wp2_with fail
         go_cut [12] from 75 to 80 (fun s12 wx => MadeC w5 wx n0 n1 n2 L s12)
         case first =>
           go_region
           · go_wp2_with fail
             go_meet
             first | exact made1 _ _ _ _ _ hL | exact made2 _ _ _ _ _ hL
           · go_wp2_with fail
             go_meet
             first | exact made1 _ _ _ _ _ hL | exact made2 _ _ _ _ _ hL
         case rest =>
           obtain ⟨p12, gc, rfl, hcv, hic, hb5, hlp, hlg, hne⟩ := hcut
           have hgx5 : gx < w5.heap.size := HV.out.lt
           have hne2 : gc ≠ gx := by omega
           have hWg : W.heap.size ≤ gc := Nat.le_trans HBW.out.size hlg
           have hp4 : p4 < gc := by have := World.block_lt_of_cell? _ _ (K4.out 0 (by omega)).1; simp at this; omega
           have HU3 : Hid (NArr wc gx cx (uS3 n0 n1 n2 L ps bs)) := HV.out.bel hb5
           have HCV := Lib.hid hcv
           have HIC : Hid (IArr wc gc L (filled (foldN n0 n1 n2 L ps bs) 0 0)) := hic.ext (by rw [filled_zero, foldN_length])
           have HB5 := Lib.hid (HBW.out.trans hb5)
           have HUL : Hid ((uS3 n0 n1 n2 L ps bs).length = L) := uS_length n0 n1 n2 L ps bs 3
           have HUP : Hid (∀ k, (uS3 n0 n1 n2 L ps bs).getD k 0 < pr) := fun k => all_getD (uS_lt n0 n1 n2 L ps bs 3) k
           have HFG : Hid (∀ k, k < L → (foldN n0 n1 n2 L ps bs).getD k 0 = sgnN ((uS3 n0 n1 n2 L ps bs).getD k 0)) := fun k hk => by
             have := HUL.out
             simp [foldN, List.getD_eq_getElem?_getD, this, hk]
           have HFL := Lib.hid (foldN_length n0 n1 n2 L ps bs)
           clear hcv hic hb5 HV HBW x0 x1 x2 x3 hmk
           go_wp2_with fail
           go_loopw [83] (fun i wq => ∃ k : Nat, k ≤ L ∧ i = .int .i64 k ∧ NArr wq gx cx (uS3 n0 n1 n2 L ps bs) ∧ CVar wq p12 n0 n1 n2 (some ⟨gc, 0, none⟩) L L ∧ IArr wq gc L (filled (foldN n0 n1 n2 L ps bs) k 0) ∧ Bel W wq) (fun i _ => L - (intOf i).toNat)
           case atStart => exact ⟨0, Nat.zero_le _, rfl, HU3.out, HCV.out, HIC.out, HB5.out⟩
           case round =>
             clear HU3 HCV HIC HB5
             obtain ⟨k, hk, rfl, hu, hcv, hic, hbw⟩ := hrel
             by_cases hlt : k < L
             · have hcx := hu.cell (i := k) (by rw [HUL.out]; exact hlt) 0
               have hlen : (filled (foldN n0 n1 n2 L ps bs) k 0).length = L := by rw [filled_length]; exact HFL.out
               have hcc := cellD_eq (hic.cell (i := k) (by rw [hlen]; exact hlt) 0)
               have hfc := hic.frozen k
               have h3 := hcv.2.2.2
               have hvp := HUP.out k
               have HG := Lib.hid (HFG.out k hlt)
               have HI : Hid (∀ z, (foldN n0 n1 n2 L ps bs).getD k 0 = z → IArr (wr.setCell ⟨gc, k, none⟩ (iV z)) gc L (filled (foldN n0 n1 n2 L ps bs) (k + 1) 0)) := fun z hz => by
                 subst hz; exact (hic.store k _).ext (filled_succ _ k 0)
               generalize (uS3 n0 n1 n2 L ps bs).getD k 0 = v at hcx hvp HG
               have HU := Lib.hid hu
               have HCV := Lib.hid hcv
               have HBW := Lib.hid hbw
               have hki : (k : Int) < L := by omega
               rw [pr_eq] at hvp
               clear hu hcv hic hbw hlen
               by_cases hbig : 9223372034707292160 < v
               · have g1 : (9223372034707292160 : Int) < v := by omega
                 obtain ⟨a, ha⟩ : ∃ a, 18446744069414584321 - v = a := ⟨_, rfl⟩
                 have f1 : IntKind.u64.wrap (18446744069414584321 - (v : Int)) = (a : Int) := by
                   rw [show (18446744069414584321 : Int) - (v : Int) = (a : Int) by omega]; exact Mul64.wrapN a (by omega)
                 have f2 : IntKind.i64.wrap (a : Int) = (a : Int) := IntWalk.i64_in _ (by omega)
                 have f3 : IntKind.i64.wrap (-(a : Int)) = -(a : Int) := IntWalk.i64_in _ (by omega)
                 have HY : Hid ((foldN n0 n1 n2 L ps bs).getD k 0 = -(a : Int)) := by
                   unfold Hid; rw [HG.out]; unfold sgnN; rw [if_pos hbig, ha]
                 clear hvp ha hbig HG
                 go_wp2_with fail
                 go_roundw
                 case rel => exact ⟨k + 1, by omega, by go_num, HU.out.setOther (by show gc ≠ gx; omega) _, ⟨cell_far HCV.out.1 (by show p12 ≠ gc; omega), cell_far HCV.out.2.1 (by show p12 ≠ gc; omega), cell_far HCV.out.2.2.1 (by show p12 ≠ gc; omega), cell_far HCV.out.2.2.2 (by show p12 ≠ gc; omega)⟩, HI.out _ HY.out, HBW.out.setCell hWg _⟩
                 case measure => simp [intOf]; omega
               · have g1 : ¬ ((9223372034707292160 : Int) < v) := by omega
                 have f2 : IntKind.i64.wrap (v : Int) = (v : Int) := IntWalk.i64_in _ (by omega)
                 have HY : Hid ((foldN n0 n1 n2 L ps bs).getD k 0 = (v : Int)) := by
                   unfold Hid; rw [HG.out]; unfold sgnN; rw [if_neg hbig]
                 clear hvp hbig HG
                 go_wp2_with fail
                 go_roundw
                 case rel => exact ⟨k + 1, by omega, by go_num, HU.out.setOther (by show gc ≠ gx; omega) _, ⟨cell_far HCV.out.1 (by show p12 ≠ gc; omega), cell_far HCV.out.2.1 (by show p12 ≠ gc; omega), cell_far HCV.out.2.2.1 (by show p12 ≠ gc; omega), cell_far HCV.out.2.2.2 (by show p12 ≠ gc; omega)⟩, HI.out _ HY.out, HBW.out.setCell hWg _⟩
                 case measure => simp [intOf]; omega
             · have hkl : k = L := by omega
               have HI : Hid (IArr wr gc L (foldN n0 n1 n2 L ps bs)) := hic.ext (by rw [hkl]; exact filled_all' HFL.out)
               have hr := K4.out.bel hbw
               have hset := cvar_set hr n0 n1 n2 (some ⟨gc, 0, none⟩) L L
               obtain ⟨g0, f0⟩ := hr 0 (by omega)
               obtain ⟨g1, f1⟩ := hr 1 (by omega)
               obtain ⟨g2, f2⟩ := hr 2 (by omega)
               obtain ⟨g3, f3⟩ := hr 3 (by omega)
               obtain ⟨z0, z1, z2, z3⟩ := hcv
               have hwp : w.heap.size ≤ p4 := by have := HP4.out; have := HP3.out; omega
               have HSET := Lib.hid hset
               have HBF := Lib.hid (((((HB.out.trans hbw).setCell (p := ⟨p4, 0, none⟩) hwp (.int .i64 n0)).setCell (p := ⟨p4, 1, none⟩) hwp (.int .i64 n1)).setCell (p := ⟨p4, 2, none⟩) hwp (.int .i64 n2)).setCell (p := ⟨p4, 3, none⟩) hwp (.slice (some ⟨gc, 0, none⟩) L L))
               have hpg : p4 ≠ gc := by omega
               have HIF := Lib.hid ((((HI.out.setOther (p := ⟨p4, 0, none⟩) hpg (.int .i64 n0)).setOther (p := ⟨p4, 1, none⟩) hpg (.int .i64 n1)).setOther (p := ⟨p4, 2, none⟩) hpg (.int .i64 n2)).setOther (p := ⟨p4, 3, none⟩) hpg (.slice (some ⟨gc, 0, none⟩) L L))
               clear hr hset hu hic hbw HI
               subst hkl
               have hwg : w.heap.size ≤ gc := by omega
               go_wp2_with fail
               obtain ⟨r0, r1, r2, r3⟩ := HSET.out
               refine bodyPost_ret (v := .tuple #[countV n0 n1 n2 (some ⟨gc, 0, none⟩) k k, .int .i64 0]) (by simp [results, Tryz.results32, go_sem, r0, r1, r2, r3]) rfl ⟨⟨gc, k, rfl, hwg, HIF.out⟩, HBF.out⟩

end Go.Proofs.YtehiabiahipkhaaGreat
