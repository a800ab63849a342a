/-
  PattersonLaws: the lists that the law fills, and the bounds of its sums (plain); the law's own walk.
  The walk of facetlaw23.PattersonLaws (awake given).
-/
import Derived.Test.YtehiabiahipkhaaGreatE2
import Derived.Test.YtehiabiahipkhaaGreatB5
namespace Go.Proofs.YtehiabiahipkhaaGreat
open Go.RowKit
set_option linter.unusedVariables false
set_option linter.unusedSimpArgs false

/-- The moved density, as it is being filled. -/
def movFill (n0 n1 n2 L t : Nat) (cs : List Int) : Nat → List Int
  | 0 => List.replicate L 0
  | k + 1 => (movFill n0 n1 n2 L t cs k).set (movN n0 n1 n2 k t) (cs.getD k 0)
theorem movFill_length (n0 n1 n2 L t : Nat) (cs : List Int) (k : Nat) : (movFill n0 n1 n2 L t cs k).length = L := by
  induction k with
  | zero => simp [movFill]
  | succ k ih => simp [movFill, ih]
theorem movFill_get {n0 n1 n2 L t : Nat} (h : P3 n0 n1 n2 L) (ht : t < L) (cs : List Int) (k : Nat) (hk : k ≤ L) (i : Nat) (hi : i < k) : (movFill n0 n1 n2 L t cs k).getD (movN n0 n1 n2 i t) 0 = cs.getD i 0 := by
  induction k with
  | zero => omega
  | succ k ih =>
    show ((movFill n0 n1 n2 L t cs k).set (movN n0 n1 n2 k t) (cs.getD k 0)).getD _ 0 = _
    rw [getD_set_at _ _ _ _ _ (by rw [movFill_length]; exact movN_lt h k t)]
    by_cases hik : i = k
    · subst hik; rw [if_pos rfl]
    · rw [if_neg, ih (by omega) (by omega)]
      intro e
      have := congrArg (fun x => movN n0 n1 n2 x (oppN n0 n1 n2 t)) e
      simp only [movN_opp h (show k < L by omega) ht, movN_opp h (show i < L by omega) ht] at this
      omega
/-- Small numbers. -/
def Small (cs : List Int) : Prop := ∀ i, (cs.getD i 0).natAbs ≤ 32768
theorem movFill_small (n0 n1 n2 L t : Nat) {cs : List Int} (h : Small cs) (k : Nat) : Small (movFill n0 n1 n2 L t cs k) := by
  induction k with
  | zero => intro i; show ((List.replicate L (0 : Int)).getD i 0).natAbs ≤ _; rw [getD_rep]; decide
  | succ k ih => exact small_set ih _ _ (h k)
theorem oppFill_small (n0 n1 n2 L : Nat) {cs : List Int} (h : Small cs) (k : Nat) : Small (oppFill n0 n1 n2 L cs k) := by
  induction k with
  | zero => intro i; show ((List.replicate L (0 : Int)).getD i 0).natAbs ≤ _; rw [getD_rep]; decide
  | succ k ih => exact small_set ih _ _ (h k)
theorem Small.within {cs : List Int} (h : Small cs) : Within cs := fun i _ => by have := h i; omega
theorem autoL_moved {n0 n1 n2 L t : Nat} (h : P3 n0 n1 n2 L) (ht : t < L) (cs : List Int) : autoL n0 n1 n2 L (movFill n0 n1 n2 L t cs L) = autoL n0 n1 n2 L cs := by
  unfold autoL
  exact List.map_congr_left fun u _ => auto_moved h cs _ t (fun i hi => movFill_get h ht cs L (Nat.le_refl _) i hi) u
theorem autoL_turned {n0 n1 n2 L : Nat} (h : P3 n0 n1 n2 L) (cs : List Int) : autoL n0 n1 n2 L (oppFill n0 n1 n2 L cs L) = autoL n0 n1 n2 L cs := by
  unfold autoL
  exact List.map_congr_left fun u hu => auto_turned h cs _ (fun i hi => oppFill_get h cs L (Nat.le_refl _) i hi) u (by simpa using hu)
theorem isum_bound {f : Nat → Int} {B n : Nat} (h : ∀ i, i < n → (f i).natAbs ≤ B) : (isum f n).natAbs ≤ n * B := by
  induction n with
  | zero => show (0 : Int).natAbs ≤ _; omega
  | succ n ih =>
    show (isum f n + f n).natAbs ≤ _
    have h1 := ih fun i hi => h i (by omega)
    have h2 := h n (by omega)
    rw [Nat.add_mul]
    omega
theorem autoL_get2 (n0 n1 n2 L : Nat) (cs : List Int) {i : Nat} (hi : i < L) : (autoL n0 n1 n2 L cs).getD i 0 = autoS n0 n1 n2 L cs i := by simp [autoL, hi]
theorem autoL_len2 (n0 n1 n2 L : Nat) (cs : List Int) : (autoL n0 n1 n2 L cs).length = L := by simp [autoL]
theorem auto_small {n0 n1 n2 L : Nat} (hL : L ≤ 256) {cs : List Int} (hs : Small cs) (u : Nat) : (autoS n0 n1 n2 L cs u).natAbs ≤ 2 ^ 38 := by
  have h1 : (autoS n0 n1 n2 L cs u).natAbs ≤ L * (32768 * 32768) := isum_bound fun i _ => by rw [Int.natAbs_mul]; exact Nat.mul_le_mul (hs _) (hs _)
  omega
/-- The sums before a round. -/
structure Sums (n0 n1 n2 L : Nat) (cs : List Int) (k : Nat) (s q a : Int) : Prop where
  s : s = isum (fun i => cs.getD i 0) k
  q : q = isum (fun i => cs.getD i 0 * cs.getD i 0) k
  a : a = isum (fun u => autoS n0 n1 n2 L cs u) k
theorem Sums.bounds {n0 n1 n2 L k : Nat} {cs : List Int} {s q a : Int} (h : Sums n0 n1 n2 L cs k s q a) (hL : L ≤ 256) (hs : Small cs) (hk : k ≤ L) :
    s.natAbs ≤ 8388608 ∧ q.natAbs ≤ 2 ^ 38 ∧ a.natAbs ≤ 2 ^ 46 := by
  have h1 : s.natAbs ≤ k * 32768 := by rw [h.s]; exact isum_bound fun i _ => hs i
  have h2 : q.natAbs ≤ k * (32768 * 32768) := by rw [h.q]; exact isum_bound fun i _ => by rw [Int.natAbs_mul]; exact Nat.mul_le_mul (hs _) (hs _)
  have h3 : a.natAbs ≤ k * 2 ^ 38 := by rw [h.a]; exact isum_bound fun i _ => auto_small hL hs i
  omega
theorem Sums.next {n0 n1 n2 L k : Nat} {cs : List Int} {s q a : Int} (h : Sums n0 n1 n2 L cs k s q a) : Sums n0 n1 n2 L cs (k + 1) (s + cs.getD k 0) (q + cs.getD k 0 * cs.getD k 0) (a + autoS n0 n1 n2 L cs k) :=
  ⟨by rw [h.s]; rfl, by rw [h.q]; rfl, by rw [h.a]; rfl⟩
/-- What Go makes of a round's sums. -/
theorem Sums.wraps {n0 n1 n2 L k : Nat} {cs : List Int} {s q a : Int} (h : Sums n0 n1 n2 L cs k s q a) (hL : L ≤ 256) (hs : Small cs) (hk : k < L) :
    IntKind.i64.wrap (s + cs.getD k 0) = s + cs.getD k 0 ∧ IntKind.i64.wrap (cs.getD k 0 * cs.getD k 0) = cs.getD k 0 * cs.getD k 0 ∧ IntKind.i64.wrap (q + cs.getD k 0 * cs.getD k 0) = q + cs.getD k 0 * cs.getD k 0 ∧ IntKind.i64.wrap (a + autoS n0 n1 n2 L cs k) = a + autoS n0 n1 n2 L cs k := by
  obtain ⟨b1, b2, b3⟩ := h.next.bounds hL hs (show k + 1 ≤ L by omega)
  have b4 : (cs.getD k 0 * cs.getD k 0).natAbs ≤ 32768 * 32768 := by rw [Int.natAbs_mul]; exact Nat.mul_le_mul (hs _) (hs _)
  generalize cs.getD k 0 * cs.getD k 0 = z at *
  generalize autoS n0 n1 n2 L cs k = z2 at *
  exact ⟨IntWalk.i64_in _ (by omega), IntWalk.i64_in _ (by omega), IntWalk.i64_in _ (by omega), IntWalk.i64_in _ (by omega)⟩
theorem place_of_bytes {n0 n1 n2 L u0 u1 u2 : Nat} (h : P3 n0 n1 n2 L) : (u0 % n0 * n1 + u1 % n1) * n2 + u2 % n2 < L := by
  rw [← h.p]
  exact place3_lt _ _ _ _ _ _ (Nat.mod_lt _ h.a.1) (Nat.mod_lt _ h.b.1) (Nat.mod_lt _ h.c.1)

end Go.Proofs.YtehiabiahipkhaaGreat

namespace Go.Proofs.YtehiabiahipkhaaGreat
open Go.RowKit
set_option linter.unusedVariables false
set_option linter.unusedSimpArgs false

set_option maxHeartbeats 8000000 in
set_option maxRecDepth 100000 in
theorem laws_walk (HAW : ∀ W : World, Calls Tryz.prog 8 #[] W fun e w' => e = .returned (.bool true) ∧ Bel W w')
    (k0 k1 k2 u0 u1 u2 m cp : Nat) (ao : Option Addr) (xs : Nat → Int) (w : World) (hk : k0 < 256 ∧ k1 < 256 ∧ k2 < 256) (hu : u0 < 256 ∧ u1 < 256 ∧ u2 < 256) (hx : Shorts w ao m xs) :
    Calls Tryz.prog 5 #[byteV k0 k1 k2, .slice ao m cp, byteV u0 u1 u2] w fun e w' => e = .returned (.bool true) ∧ Bel w w' := by
  have HA := Lib.hid HAW
  have HX := Lib.hid hx
  have HK := Lib.hid hk
  have HU := Lib.hid hu
  clear HAW hx hk hu
  go_enter Tryz.func5, Tryz.ntmps5
  go_wp2_with fail
  generalize hW1 : World.alloc _ _ = W1
  have HB : Hid (Bel w W1) := by rw [← hW1]; exact ((Bel.refl w).alloc _).alloc _
  have K3 : Hid (B3 W1 w.heap.size k0 k1 k2) := by rw [← hW1]; exact (b3_new _ _ _ _ _).bel ((Bel.refl _).alloc _)
  have K5 : Hid (B3 W1 (w.heap.size + 1) u0 u1 u2) := by
    rw [← hW1]
    have z1 : (w.alloc (.cells #[.int .u8 k0, .int .u8 k1, .int .u8 k2] 48)).heap.size = w.heap.size + 1 := size_alloc' _ _
    rw [← z1]
    exact b3_new _ _ _ _ _
  clear hW1
  generalize w.heap.size + 1 = p5 at K5 ⊢
  generalize w.heap.size = p3 at K3 ⊢
  refine (HA.out _).mono ?_
  rintro e w1 ⟨rfl, hb1⟩
  have HB1 := Lib.hid (HB.out.trans hb1)
  obtain ⟨y0, y1, y2⟩ := K3.out.bel hb1
  have K5' := Lib.hid (K5.out.bel hb1)
  clear hb1 HB K3 K5
  go_wp2_with fail
  refine (drawn_any k0 k1 k2 m cp ao xs w1 HK.out (HX.out.bel HB1.out)).mono ?_
  rintro e w2 ⟨⟨n0, n1, n2, L, gC, cs, rfl, hs, hL, hlen, hsm, hg, hic⟩, hb2⟩
  have HS := Lib.hid hs
  have HLN := Lib.hid hlen
  have HSM : Hid (Small cs) := hsm
  have HB2 := Lib.hid (HB1.out.trans hb2)
  have HIC := Lib.hid hic
  have K5'' := Lib.hid (K5'.out.bel hb2)
  clear hs hlen hsm hg hic hb2 y0 y1 y2 K5' HB1
  go_wp2_with fail
  have K7 : Hid (CVar (w2.alloc (.cells #[.int .i64 n0, .int .i64 n1, .int .i64 n2, .slice (some ⟨gC, 0, none⟩) L L] 26)) w2.heap.size n0 n1 n2 (some ⟨gC, 0, none⟩) L L) := cvar_new _ _ _ _ _ _ _ _
  have HB3 : Hid (Bel w (w2.alloc (.cells #[.int .i64 n0, .int .i64 n1, .int .i64 n2, .slice (some ⟨gC, 0, none⟩) L L] 26))) := HB2.out.alloc _
  have HIC3 : Hid (IArr (w2.alloc (.cells #[.int .i64 n0, .int .i64 n1, .int .i64 n2, .slice (some ⟨gC, 0, none⟩) L L] 26)) gC L cs) := HIC.out.alloc _
  have K5 : Hid (B3 (w2.alloc (.cells #[.int .i64 n0, .int .i64 n1, .int .i64 n2, .slice (some ⟨gC, 0, none⟩) L L] 26)) p5 u0 u1 u2) := K5''.out.bel ((Bel.refl _).alloc _)
  clear HB2 HIC K5''
  generalize World.alloc _ _ = w3 at K7 HB3 HIC3 K5 ⊢
  generalize w2.heap.size = p7 at K7 ⊢
  have HCX : Hid (∀ W : World, Bel w3 W → ∀ i, i < L → W.cell? ⟨gC, 0 + i, none⟩ = some (iV (cs.getD i 0))) := fun W hb i hi => by
    rw [Nat.zero_add]; exact hb.cellv (HIC3.out.cell (by rw [HLN.out]; exact hi) 0)
  refine (exact_go gC 0 L n0 n1 n2 L cs w3 HS.out HLN.out (HCX.out w3 (Bel.refl _))).mono ?_
  rintro e w4 ⟨hex, hb4⟩
  rcases hex with ⟨hno, _⟩ | ⟨_, gA, cA, rfl, hgA, hia⟩
  · exact absurd HSM.out.within hno
  have HIA := Lib.hid hia
  have HB4 := Lib.hid hb4
  obtain ⟨x0, x1, x2, x3⟩ := K7.out.bel hb4
  have hp7l : p7 < w4.heap.size := by simpa using World.block_lt_of_cell? _ _ x0
  clear hia hb4
  go_wp2_with fail
  clear x0 x1 x2 x3 hp7l
  have hL2 : L ≤ 262144 := by omega
  have K8 : Hid (CVar (w4.alloc (.cells #[.int .i64 n0, .int .i64 n1, .int .i64 n2, .slice (some ⟨gA, 0, none⟩) L cA] 26)) w4.heap.size n0 n1 n2 (some ⟨gA, 0, none⟩) L cA) := cvar_new _ _ _ _ _ _ _ _
  have HB5 : Hid (Bel w3 (w4.alloc (.cells #[.int .i64 n0, .int .i64 n1, .int .i64 n2, .slice (some ⟨gA, 0, none⟩) L cA] 26))) := HB4.out.alloc _
  have HA5 : Hid (IArr (w4.alloc (.cells #[.int .i64 n0, .int .i64 n1, .int .i64 n2, .slice (some ⟨gA, 0, none⟩) L cA] 26)) gA cA (autoL n0 n1 n2 L cs)) := HIA.out.alloc _
  clear HB4 HIA
  generalize World.alloc _ _ = w5 at K8 HB5 HA5 ⊢
  generalize w4.heap.size = p8 at K8 ⊢
  have hmk : ∀ W : World, (Instr.makeSlice 24 (.int .i64 (L : Int)) (.int .i64 (L : Int))).run Tryz.prog W = .ok (.slice (some ⟨W.heap.size, 0, none⟩) L L) (W.alloc (.cells (madeCells #[.int .i64 0] L) 3)) := by
    obtain ⟨j0, hj, hj0, hj1, hj2⟩ := info_parts' info_i
    intro W
    have := run_make (P := Tryz.prog) W 24 3 j0 _ Tryz.underlying24 hj hj0 .i64 .i64 L L (by omega) (by omega) (by rw [hj2]; omega) (by omega)
    rw [hj1, Nat.mul_one] at this
    exact this
  obtain ⟨x0, x1, x2, x3⟩ := K7.out.bel HB5.out
  have hp1l : p7 < w5.heap.size := by simpa using World.block_lt_of_cell? _ _ x0
  have hp1m : p7 < w5.heap.size + 1 := by omega
  go_cut [10] from 48 to 54 (fun s3 wx => MadeC w5 wx n0 n1 n2 L s3)
  case first =>
    go_region
    · go_wp2_with fail
      go_meet
      first | exact made1 _ _ _ _ _ hL2 | exact made2 _ _ _ _ _ hL2
    · go_wp2_with fail
      go_meet
      first | exact made1 _ _ _ _ _ hL2 | exact made2 _ _ _ _ _ hL2
  case rest =>
  clear x0 x1 x2 x3 hp1l hp1m
  obtain ⟨p10, gD, rfl, hcv, hic, hb6, hlp, hlg, hne⟩ := hcut
  have K10 := Lib.hid hcv
  have HD6 : Hid (IArr wc gD L (movFill n0 n1 n2 L ((u0 % n0 * n1 + u1 % n1) * n2 + u2 % n2) cs 0)) := hic
  have HB6 := Lib.hid hb6
  have hdl := hic.lt
  have hpl : p10 < wc.heap.size := by simpa using World.block_lt_of_cell? _ _ hcv.1
  obtain ⟨x0, x1, x2, x3⟩ := (K7.out.bel HB5.out).bel hb6
  have hp1l : p7 < wc.heap.size := by simpa using World.block_lt_of_cell? _ _ x0
  have hp1m : p7 < wc.heap.size + 1 := by omega
  obtain ⟨w6, rfl⟩ : ∃ w6 : World, w6 = wc := ⟨_, rfl⟩
  clear hcv hic hb6
  go_wp2_with fail
  go_cut [11] from 55 to 61 (fun s3 wx => MadeC w6 wx n0 n1 n2 L s3)
  case first =>
    go_region
    · go_wp2_with fail
      go_meet
      first | exact made1 _ _ _ _ _ hL2 | exact made2 _ _ _ _ _ hL2
    · go_wp2_with fail
      go_meet
      first | exact made1 _ _ _ _ _ hL2 | exact made2 _ _ _ _ _ hL2
  case rest =>
  clear x0 x1 x2 x3 hp1l hp1m hmk
  obtain ⟨p11, gO, rfl, hcv, hic, hb7, hlp2, hlg2, hne2⟩ := hcut
  have HNE : Hid (p10 ≠ gD ∧ p10 ≠ gO ∧ p11 ≠ gD ∧ p11 ≠ gO ∧ gD ≠ gO ∧ w5.heap.size ≤ gD ∧ w5.heap.size ≤ gO) := by
    have := HB6.out.size
    exact ⟨hne, by omega, by omega, hne2, by omega, by omega, by omega⟩
  have K10' := Lib.hid (K10.out.bel hb7)
  have HD7 := Lib.hid (HD6.out.bel hb7)
  have K11 := Lib.hid hcv
  have HO7 : Hid (IArr wc gO L (oppFill n0 n1 n2 L cs 0)) := hic
  have HB7 := Lib.hid (HB6.out.trans hb7)
  obtain ⟨x0, x1, x2, x3⟩ := (K7.out.bel HB5.out).bel HB7.out
  clear hcv hic hb7 hlp hlp2 hlg hlg2 hne hne2 hdl hpl K10 HD6 HB6
  go_wp2_with fail
  clear x0 x1 x2 x3
  have HLI : Hid (∀ k, k ≤ L → (k : Int) ≤ L) := fun k h => by omega
  go_loopw [12, 13, 14, 65] (fun s q a i wr => ∃ (k : Nat) (zs zq za : Int), k ≤ L ∧ i = .int .i64 k ∧ s = .int .i64 zs ∧ q = .int .i64 zq ∧ a = .int .i64 za ∧ Sums n0 n1 n2 L cs k zs zq za ∧
    CVar wr p10 n0 n1 n2 (some ⟨gD, 0, none⟩) L L ∧ IArr wr gD L (movFill n0 n1 n2 L ((u0 % n0 * n1 + u1 % n1) * n2 + u2 % n2) cs k) ∧ CVar wr p11 n0 n1 n2 (some ⟨gO, 0, none⟩) L L ∧ IArr wr gO L (oppFill n0 n1 n2 L cs k) ∧ Bel w5 wr) (fun _ _ _ i _ => L - (intOf i).toNat)
  case atStart => exact ⟨0, 0, 0, 0, Nat.zero_le _, rfl, rfl, rfl, rfl, ⟨rfl, rfl, rfl⟩, K10'.out, HD7.out, K11.out, HO7.out, HB7.out⟩
  case round =>
  clear K10' HD7 K11 HO7 HB7
  obtain ⟨k, zs, zq, za, hk, rfl, rfl, rfl, rfl, hsu, c10, hd, c11, ho, hbw⟩ := hrel
  have HSU := Lib.hid hsu
  by_cases hlt : k < L
  · have hki : (k : Int) < L := by omega
    have hP3 := HS.out.p3
    have htl : (u0 % n0 * n1 + u1 % n1) * n2 + u2 % n2 < L := place_of_bytes hP3
    have HMO := Lib.hid (fun W => moved_any n0 n1 n2 L k u0 u1 u2 W hP3 hlt HU.out)
    have HOP := Lib.hid (fun W => opposite_any n0 n1 n2 L k W hP3 hlt)
    have hml : movN n0 n1 n2 k ((u0 % n0 * n1 + u1 % n1) * n2 + u2 % n2) < L := movN_lt hP3 _ _
    have hol : oppN n0 n1 n2 k < L := oppN_lt hP3 _
    have hmf : movFill n0 n1 n2 L ((u0 % n0 * n1 + u1 % n1) * n2 + u2 % n2) cs (k + 1) = (movFill n0 n1 n2 L ((u0 % n0 * n1 + u1 % n1) * n2 + u2 % n2) cs k).set (movN n0 n1 n2 k ((u0 % n0 * n1 + u1 % n1) * n2 + u2 % n2)) (cs.getD k 0) := rfl
    have hof : oppFill n0 n1 n2 L cs (k + 1) = (oppFill n0 n1 n2 L cs k).set (oppN n0 n1 n2 k) (cs.getD k 0) := rfl
    have hmlen := movFill_length n0 n1 n2 L ((u0 % n0 * n1 + u1 % n1) * n2 + u2 % n2) cs k
    have holen := oppFill_length n0 n1 n2 L cs k
    obtain ⟨mf2, hm2⟩ : ∃ y, movFill n0 n1 n2 L ((u0 % n0 * n1 + u1 % n1) * n2 + u2 % n2) cs (k + 1) = y := ⟨_, rfl⟩
    obtain ⟨of2, ho2⟩ : ∃ y, oppFill n0 n1 n2 L cs (k + 1) = y := ⟨_, rfl⟩
    have HM2 := Lib.hid hm2
    have HO2 := Lib.hid ho2
    rw [hm2] at hmf
    rw [ho2] at hof
    clear hm2 ho2
    generalize movFill n0 n1 n2 L ((u0 % n0 * n1 + u1 % n1) * n2 + u2 % n2) cs k = mf at *
    generalize oppFill n0 n1 n2 L cs k = of' at *
    generalize movN n0 n1 n2 k ((u0 % n0 * n1 + u1 % n1) * n2 + u2 % n2) = mo at *
    have hwr := hsu.wraps hL HSM.out hlt
    have hnx := hsu.next
    have hau := auto_opp hP3 cs k hlt
    have hle := auto_le hP3 cs k
    have hab := auto_small (n0 := n0) (n1 := n1) (n2 := n2) hL HSM.out k
    have ha0 := autoL_get n0 n1 n2 L cs 0 (by omega)
    have hak := autoL_get n0 n1 n2 L cs k hlt
    have hao := autoL_get n0 n1 n2 L cs (oppN n0 n1 n2 k) hol
    rw [hau] at hao
    have h0L : 0 < L := by omega
    have q0 := HA5.out.cell (i := 0) (by rw [autoL_len2]; omega) 0
    have qk := HA5.out.cell (i := k) (by rw [autoL_len2]; exact hlt) 0
    have qo := HA5.out.cell (i := oppN n0 n1 n2 k) (by rw [autoL_len2]; exact hol) 0
    rw [ha0] at q0
    rw [hak] at qk
    rw [hao] at qo
    have hcc := (HB5.out.trans hbw)
    have qc := HCX.out wr hcc k hlt
    rw [Nat.zero_add] at qc
    clear hau ha0 hak hao hsu
    generalize oppN n0 n1 n2 k = oo at *
    generalize autoS n0 n1 n2 L cs k = ak at *
    generalize autoS n0 n1 n2 L cs 0 = az at *
    generalize cs.getD k 0 = x at *
    have HW := Lib.hid hwr
    have HNX := Lib.hid hnx
    have HMF := Lib.hid hmf
    have HOF := Lib.hid hof
    have HML := Lib.hid hmlen
    have HOL := Lib.hid holen
    have HLE := Lib.hid hle
    have HAB := Lib.hid hab
    have HQ : Hid (w5.cell? ⟨gA, 0, none⟩ = some (iV az) ∧ w5.cell? ⟨gA, k, none⟩ = some (iV ak) ∧ w5.cell? ⟨gA, oo, none⟩ = some (iV ak)) := ⟨q0, qk, qo⟩
    have C10 := Lib.hid c10
    have C11 := Lib.hid c11
    have HD := Lib.hid hd
    have HO := Lib.hid ho
    have HBW := Lib.hid hbw
    obtain ⟨x0, x1, x2, x3⟩ := K7.out.bel hcc
    obtain ⟨wo, rfl⟩ : ∃ wo : World, wo = wr := ⟨_, rfl⟩
    have d3 : ∀ v : In wo, v.w.cell? ⟨p8, 3, none⟩ = some (.slice (some ⟨gA, 0, none⟩) L cA) := In.cellv (hbw.cellv K8.out.2.2.2)
    have d4 : ∀ v : In wo, v.w.cell? ⟨gA, k, none⟩ = some (iV ak) := In.cellv (hbw.cellv qk)
    clear hwr hnx hmf hof hmlen holen hle hab q0 qo qk c10 c11 hd ho hbw hcc hP3 htl
    go_wp2_with fail
    obtain ⟨f1, f2, f3, f4⟩ := HW.out
    refine wp_in (by kernel_rfl) (by kernel_rfl) ?_
    repeat (go_big_quiet_step (fail))
    refine wpQuiet_nil ?_
    intro vq
    have HV := Lib.hid vq.h
    obtain ⟨wz, hwz⟩ : ∃ wz, vq.w = wz := ⟨_, rfl⟩
    rw [hwz] at HV ⊢
    clear hwz d3 d4 f1 f2 f3 f4 x0 x1 x2 x3
    go_wp2_with fail
    have Cz10 := Lib.hid (C10.out.bel HV.out)
    have Cz11 := Lib.hid (C11.out.bel HV.out)
    have HDz := Lib.hid (HD.out.bel HV.out)
    have HOz := Lib.hid (HO.out.bel HV.out)
    have HBz := Lib.hid (HBW.out.trans HV.out)
    clear C10 C11 HD HO HBW HV
    obtain ⟨x0, x1, x2, _⟩ := K7.out.bel (HB5.out.trans HBz.out)
    obtain ⟨z0, z1, z2⟩ := K5.out.bel (HB5.out.trans HBz.out)
    have d0 : ∀ v : In wz, v.w.cell? ⟨p7, 0, none⟩ = some (.int .i64 n0) := In.cellv x0
    have d1 : ∀ v : In wz, v.w.cell? ⟨p7, 1, none⟩ = some (.int .i64 n1) := In.cellv x1
    have d2 : ∀ v : In wz, v.w.cell? ⟨p7, 2, none⟩ = some (.int .i64 n2) := In.cellv x2
    have d3 : ∀ v : In wz, v.w.cell? ⟨p5, 0, none⟩ = some (.int .u8 u0) := In.cellv z0
    have d4 : ∀ v : In wz, v.w.cell? ⟨p5, 1, none⟩ = some (.int .u8 u1) := In.cellv z1
    have d5 : ∀ v : In wz, v.w.cell? ⟨p5, 2, none⟩ = some (.int .u8 u2) := In.cellv z2
    have d6 : ∀ v : In wz, v.w.cell? ⟨p10, 3, none⟩ = some (.slice (some ⟨gD, 0, none⟩) L L) := In.cellv Cz10.out.2.2.2
    have hcu := HDz.out.cell (i := mo) (by rw [HML.out]; exact hml) 0
    have hfu := HDz.out.frozen mo
    have d7 : ∀ v : In wz, v.w.cell? ⟨gD, mo, none⟩ = some (iV (mf.getD mo 0)) := In.cellv hcu
    have d8 : ∀ v : In wz, v.w.frozen? ⟨gD, mo, none⟩ = false := In.frozen hcu hfu
    have hmi : (mo : Int) < L := by omega
    clear x0 x1 x2 z0 z1 z2 hcu hfu
    refine wp_in_tail 9 (by kernel_rfl) (by kernel_rfl) ?_
    simp only [List.take_succ_cons, List.take_zero, List.drop_succ_cons, List.drop_zero]
    repeat (go_big_quiet_step ((go_at_call 18; exact Calls.in_of (HMO.out _))))
    refine wpQuiet_nil ?_
    intro vq
    have HV := Lib.hid vq.h
    have d7' := d7 vq
    have d8' := d8 vq
    obtain ⟨wy, hwy⟩ : ∃ wy, vq.w = wy := ⟨_, rfl⟩
    rw [hwy] at HV d7' d8' ⊢
    clear hwy d0 d1 d2 d3 d4 d5 d6 d7 d8
    go_wp2_with fail
    have Cy10 := Lib.hid ((Cz10.out.bel HV.out).far (q := ⟨gD, mo, none⟩) HNE.out.1 (.int .i64 x))
    have Cy11 := Lib.hid ((Cz11.out.bel HV.out).far (q := ⟨gD, mo, none⟩) HNE.out.2.2.1 (.int .i64 x))
    have HDy : Hid (IArr (wy.setCell ⟨gD, mo, none⟩ (.int .i64 x)) gD L mf2) := ((HDz.out.bel HV.out).store mo x).ext HMF.out.symm
    have HOy := Lib.hid ((HOz.out.bel HV.out).setOther (p := ⟨gD, mo, none⟩) HNE.out.2.2.2.2.1 (.int .i64 x))
    have HBy := Lib.hid ((HBz.out.trans HV.out).setCell (p := ⟨gD, mo, none⟩) HNE.out.2.2.2.2.2.1 (.int .i64 x))
    clear Cz10 Cz11 HDz HOz HBz HV d7' d8'
    generalize World.setCell _ _ _ = wx at Cy10 Cy11 HDy HOy HBy ⊢
    obtain ⟨x0, x1, x2, _⟩ := K7.out.bel (HB5.out.trans HBy.out)
    have d0 : ∀ v : In wx, v.w.cell? ⟨p7, 0, none⟩ = some (.int .i64 n0) := In.cellv x0
    have d1 : ∀ v : In wx, v.w.cell? ⟨p7, 1, none⟩ = some (.int .i64 n1) := In.cellv x1
    have d2 : ∀ v : In wx, v.w.cell? ⟨p7, 2, none⟩ = some (.int .i64 n2) := In.cellv x2
    have d6 : ∀ v : In wx, v.w.cell? ⟨p11, 3, none⟩ = some (.slice (some ⟨gO, 0, none⟩) L L) := In.cellv Cy11.out.2.2.2
    have hcu := HOy.out.cell (i := oo) (by rw [HOL.out]; exact hol) 0
    have hfu := HOy.out.frozen oo
    have d7 : ∀ v : In wx, v.w.cell? ⟨gO, oo, none⟩ = some (iV (of'.getD oo 0)) := In.cellv hcu
    have d8 : ∀ v : In wx, v.w.frozen? ⟨gO, oo, none⟩ = false := In.frozen hcu hfu
    have hoi : (oo : Int) < L := by omega
    clear x0 x1 x2 hcu hfu
    refine wp_in_tail 8 (by kernel_rfl) (by kernel_rfl) ?_
    simp only [List.take_succ_cons, List.take_zero, List.drop_succ_cons, List.drop_zero]
    repeat (go_big_quiet_step ((go_at_call 19; exact Calls.in_of (HOP.out _))))
    refine wpQuiet_nil ?_
    intro vq
    have HV := Lib.hid vq.h
    have d7' := d7 vq
    have d8' := d8 vq
    obtain ⟨wy, hwy⟩ : ∃ wy, vq.w = wy := ⟨_, rfl⟩
    rw [hwy] at HV d7' d8' ⊢
    clear hwy d0 d1 d2 d6 d7 d8
    go_wp2_with fail
    have Cz10 := Lib.hid ((Cy10.out.bel HV.out).far (q := ⟨gO, oo, none⟩) HNE.out.2.1 (.int .i64 x))
    have Cz11 := Lib.hid ((Cy11.out.bel HV.out).far (q := ⟨gO, oo, none⟩) HNE.out.2.2.2.1 (.int .i64 x))
    have HDz := Lib.hid ((HDy.out.bel HV.out).setOther (p := ⟨gO, oo, none⟩) HNE.out.2.2.2.2.1.symm (.int .i64 x))
    have HOz : Hid (IArr (wy.setCell ⟨gO, oo, none⟩ (.int .i64 x)) gO L of2) := ((HOy.out.bel HV.out).store oo x).ext HOF.out.symm
    have HBz := Lib.hid ((HBy.out.trans HV.out).setCell (p := ⟨gO, oo, none⟩) HNE.out.2.2.2.2.2.2 (.int .i64 x))
    clear Cy10 Cy11 HDy HOy HBy HV d7' d8'
    generalize World.setCell _ _ _ = wv at Cz10 Cz11 HDz HOz HBz ⊢
    obtain ⟨x0, x1, x2, _⟩ := K7.out.bel (HB5.out.trans HBz.out)
    have d0 : ∀ v : In wv, v.w.cell? ⟨p7, 0, none⟩ = some (.int .i64 n0) := In.cellv x0
    have d1 : ∀ v : In wv, v.w.cell? ⟨p7, 1, none⟩ = some (.int .i64 n1) := In.cellv x1
    have d2 : ∀ v : In wv, v.w.cell? ⟨p7, 2, none⟩ = some (.int .i64 n2) := In.cellv x2
    have d3 : ∀ v : In wv, v.w.cell? ⟨p8, 3, none⟩ = some (.slice (some ⟨gA, 0, none⟩) L cA) := In.cellv (HBz.out.cellv K8.out.2.2.2)
    have d4 : ∀ v : In wv, v.w.cell? ⟨gA, 0, none⟩ = some (iV az) := In.cellv (HBz.out.cellv HQ.out.1)
    have d5 : ∀ v : In wv, v.w.cell? ⟨gA, k, none⟩ = some (iV ak) := In.cellv (HBz.out.cellv HQ.out.2.1)
    have d6 : ∀ v : In wv, v.w.cell? ⟨gA, oo, none⟩ = some (iV ak) := In.cellv (HBz.out.cellv HQ.out.2.2)
    have g0 : (ak != ak) = false := by simp
    have g1 : decide (az < ak) = false := by have := HLE.out.1; rw [decide_eq_false_iff_not]; omega
    have g2 : decide (az < -ak) = false := by have := HLE.out.2; rw [decide_eq_false_iff_not]; omega
    have g3 : IntKind.i64.wrap (-ak) = -ak := IntWalk.i64_in _ (by have := HAB.out; omega)
    have h0i : (0 : Int) < L := by omega
    clear x0 x1 x2
    go_wp2_with fail
    refine wp_in (by kernel_rfl) (by kernel_rfl) ?_
    repeat (go_big_quiet_step ((go_at_call 19; exact Calls.in_of (HOP.out _))))
    refine wpQuiet_nil ?_
    intro vq
    have HV := Lib.hid vq.h
    obtain ⟨wu, hwu⟩ : ∃ wu, vq.w = wu := ⟨_, rfl⟩
    rw [hwu] at HV ⊢
    clear hwu d0 d1 d2 d3 d4 d5 d6 g0 g1 g2 g3
    go_wp2_with fail
    go_roundw
    case rel => exact ⟨k + 1, _, _, _, by omega, by go_num, rfl, rfl, rfl, HNX.out, Cz10.out.bel HV.out, (HDz.out.bel HV.out).ext HM2.out.symm, Cz11.out.bel HV.out, (HOz.out.bel HV.out).ext HO2.out.symm, HBz.out.trans HV.out⟩
    case measure => simp [intOf]; omega
  · have hkl : k = L := by omega
    subst hkl
    have hP3 := HS.out.p3
    have htl : (u0 % n0 * n1 + u1 % n1) * n2 + u2 % n2 < k := place_of_bytes hP3
    have HMA := Lib.hid (autoL_moved hP3 htl cs)
    have HOA := Lib.hid (autoL_turned hP3 cs)
    have HMS := Lib.hid (movFill_small n0 n1 n2 k ((u0 % n0 * n1 + u1 % n1) * n2 + u2 % n2) HSM.out k)
    have HOS := Lib.hid (oppFill_small n0 n1 n2 k HSM.out k)
    have HML := Lib.hid (movFill_length n0 n1 n2 k ((u0 % n0 * n1 + u1 % n1) * n2 + u2 % n2) cs k)
    have HOL := Lib.hid (oppFill_length n0 n1 n2 k cs k)
    generalize movFill n0 n1 n2 k ((u0 % n0 * n1 + u1 % n1) * n2 + u2 % n2) cs k = ds at *
    generalize oppFill n0 n1 n2 k cs k = os at *
    have HSQ : Hid (autoS n0 n1 n2 k cs 0 = zq ∧ za = zs * zs ∧ IntKind.i64.wrap (zs * zs) = zs * zs) := by
      have hs := hsu.s
      have hq := hsu.q
      have ha := hsu.a
      have hb := (hsu.bounds hL HSM.out (Nat.le_refl _)).1
      have hm : (zs * zs).natAbs ≤ 8388608 * 8388608 := by rw [Int.natAbs_mul]; exact Nat.mul_le_mul hb hb
      refine ⟨by rw [hq]; exact auto_zero hP3 cs, by rw [ha, hs]; exact auto_all hP3 cs, ?_⟩
      generalize zs * zs = z at *
      exact IntWalk.i64_in _ (by omega)
    have C10 := Lib.hid c10
    have C11 := Lib.hid c11
    have HD := Lib.hid hd
    have HO := Lib.hid ho
    have HBW := Lib.hid hbw
    obtain ⟨x0, x1, x2, x3⟩ := c10
    clear htl hP3 c11 hd ho hbw hsu
    go_wp2_with fail
    have HDX : Hid (∀ W : World, Bel wr W → ∀ i, i < k → W.cell? ⟨gD, 0 + i, none⟩ = some (iV (ds.getD i 0))) := fun W hb i hi => by
      rw [Nat.zero_add]; exact hb.cellv (HD.out.cell (by rw [HML.out]; exact hi) 0)
    have HOX : Hid (∀ W : World, Bel wr W → ∀ i, i < k → W.cell? ⟨gO, 0 + i, none⟩ = some (iV (os.getD i 0))) := fun W hb i hi => by
      rw [Nat.zero_add]; exact hb.cellv (HO.out.cell (by rw [HOL.out]; exact hi) 0)
    clear x0 x1 x2 x3
    refine (exact_go gD 0 k n0 n1 n2 k ds wr HS.out HML.out (HDX.out wr (Bel.refl _))).mono ?_
    rintro e w8 ⟨hex, hb8⟩
    rcases hex with ⟨hno, _⟩ | ⟨_, gP, cP, rfl, hgP, hip⟩
    · exact absurd HMS.out.within hno
    rw [HMA.out] at hip
    have HIP := Lib.hid hip
    have HB8 := Lib.hid hb8
    obtain ⟨x0, x1, x2, x3⟩ := C11.out.bel hb8
    have hp11l : p11 < w8.heap.size := by simpa using World.block_lt_of_cell? _ _ x0
    clear hip hb8
    go_wp2_with fail
    clear x0 x1 x2 x3 hp11l
    have K17 : Hid (CVar (w8.alloc (.cells #[.int .i64 n0, .int .i64 n1, .int .i64 n2, .slice (some ⟨gP, 0, none⟩) k cP] 26)) w8.heap.size n0 n1 n2 (some ⟨gP, 0, none⟩) k cP) := cvar_new _ _ _ _ _ _ _ _
    have HB9 : Hid (Bel wr (w8.alloc (.cells #[.int .i64 n0, .int .i64 n1, .int .i64 n2, .slice (some ⟨gP, 0, none⟩) k cP] 26))) := HB8.out.alloc _
    have HP9 : Hid (IArr (w8.alloc (.cells #[.int .i64 n0, .int .i64 n1, .int .i64 n2, .slice (some ⟨gP, 0, none⟩) k cP] 26)) gP cP (autoL n0 n1 n2 k cs)) := HIP.out.alloc _
    clear HB8 HIP
    generalize World.alloc _ _ = w9 at K17 HB9 HP9 ⊢
    generalize w8.heap.size = p17 at K17 ⊢
    refine (exact_go gO 0 k n0 n1 n2 k os w9 HS.out HOL.out (HOX.out w9 HB9.out)).mono ?_
    rintro e w10 ⟨hex, hb10⟩
    rcases hex with ⟨hno, _⟩ | ⟨_, gQ, cQ, rfl, hgQ, hiq⟩
    · exact absurd HOS.out.within hno
    rw [HOA.out] at hiq
    have HIQ := Lib.hid hiq
    have HB10 := Lib.hid hb10
    obtain ⟨x0, x1, x2, x3⟩ := K8.out.bel (HBW.out.trans (HB9.out.trans hb10))
    obtain ⟨z0, z1, z2, z3⟩ := K17.out.bel hb10
    have hp8l : p8 < w10.heap.size := by simpa using World.block_lt_of_cell? _ _ x0
    have hp17l : p17 < w10.heap.size := by simpa using World.block_lt_of_cell? _ _ z0
    clear hiq hb10
    go_wp2_with fail
    clear x0 x1 x2 x3 z0 z1 z2 z3 hp8l hp17l
    have K18 : Hid (CVar (w10.alloc (.cells #[.int .i64 n0, .int .i64 n1, .int .i64 n2, .slice (some ⟨gQ, 0, none⟩) k cQ] 26)) w10.heap.size n0 n1 n2 (some ⟨gQ, 0, none⟩) k cQ) := cvar_new _ _ _ _ _ _ _ _
    have HB11 : Hid (Bel w9 (w10.alloc (.cells #[.int .i64 n0, .int .i64 n1, .int .i64 n2, .slice (some ⟨gQ, 0, none⟩) k cQ] 26))) := HB10.out.alloc _
    have HQ11 : Hid (IArr (w10.alloc (.cells #[.int .i64 n0, .int .i64 n1, .int .i64 n2, .slice (some ⟨gQ, 0, none⟩) k cQ] 26)) gQ cQ (autoL n0 n1 n2 k cs)) := HIQ.out.alloc _
    clear HB10 HIQ
    generalize World.alloc _ _ = w11 at K18 HB11 HQ11 ⊢
    generalize w10.heap.size = p18 at K18 ⊢
    have HB511 := Lib.hid (HBW.out.trans (HB9.out.trans HB11.out))
    have HXA : Hid (∀ W : World, Bel w11 W → ∀ i, i < k → W.cell? ⟨gA, 0 + i, none⟩ = some (iV ((autoL n0 n1 n2 k cs).getD i 0))) := fun W hb i hi => by
      rw [Nat.zero_add]; exact (HB511.out.trans hb).cellv (HA5.out.cell (by rw [autoL_len2]; exact hi) 0)
    have HXP : Hid (∀ W : World, Bel w11 W → ∀ i, i < k → W.cell? ⟨gP, 0 + i, none⟩ = some (iV ((autoL n0 n1 n2 k cs).getD i 0))) := fun W hb i hi => by
      rw [Nat.zero_add]; exact (HB11.out.trans hb).cellv (HP9.out.cell (by rw [autoL_len2]; exact hi) 0)
    have HXQ : Hid (∀ W : World, Bel w11 W → ∀ i, i < k → W.cell? ⟨gQ, 0 + i, none⟩ = some (iV ((autoL n0 n1 n2 k cs).getD i 0))) := fun W hb i hi => by
      rw [Nat.zero_add]; exact hb.cellv (HQ11.out.cell (by rw [autoL_len2]; exact hi) 0)
    refine (same_yes gA 0 cA gP 0 cP k k _ _ _ _ _ (autoL n0 n1 n2 k cs) w11 (autoL_len2 _ _ _ _ _) (autoL_len2 _ _ _ _ _) (by omega) (fun i hi => ⟨rfl, HXA.out w11 (Bel.refl _) i hi⟩) (fun i hi => ⟨rfl, HXP.out w11 (Bel.refl _) i hi⟩)).mono ?_
    rintro e w12 ⟨rfl, hb12⟩
    have HB12 := Lib.hid hb12
    obtain ⟨x0, x1, x2, x3⟩ := K8.out.bel (HB511.out.trans hb12)
    obtain ⟨z0, z1, z2, z3⟩ := K18.out.bel hb12
    clear hb12
    go_wp2_with fail
    clear x0 x1 x2 x3 z0 z1 z2 z3
    refine (same_yes gA 0 cA gQ 0 cQ k k _ _ _ _ _ (autoL n0 n1 n2 k cs) w12 (autoL_len2 _ _ _ _ _) (autoL_len2 _ _ _ _ _) (by omega) (fun i hi => ⟨rfl, HXA.out w12 HB12.out i hi⟩) (fun i hi => ⟨rfl, HXQ.out w12 HB12.out i hi⟩)).mono ?_
    rintro e w13 ⟨rfl, hb13⟩
    have HB13 := Lib.hid (HB12.out.trans hb13)
    clear hb13
    obtain ⟨x0, x1, x2, x3⟩ := K8.out.bel (HB511.out.trans HB13.out)
    have h0k : 0 < k := by rw [← HS.out.p]; exact Nat.mul_pos (Nat.mul_pos HS.out.a.1 HS.out.b.1) HS.out.c.1
    have h0i : (0 : Int) < k := by omega
    obtain ⟨e1, e2, e3⟩ := HSQ.out
    have q0 := HXA.out w13 HB13.out 0 h0k
    rw [Nat.zero_add, autoL_get n0 n1 n2 k cs 0 h0k, e1] at q0
    have g1 : (zq == zq) = true := by simp
    have g2 : (za == zs * zs) = true := by rw [e2]; simp
    clear e1 e2
    go_wp2_with fail
    go_ret
    exact ⟨rfl, (HB3.out.trans HB5.out).trans (HB511.out.trans HB13.out)⟩

end Go.Proofs.YtehiabiahipkhaaGreat
