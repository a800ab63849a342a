/-
  The walks of facetlaw23.plus, times, line and of ntt.Prime, check, Line.
  Plain: the exact transform of a density's sums on one side is the product of the density's there and at the opposite place.
-/
import Derived.Test.YtehiabiahipkhaaGreatE3
import Derived.Test.YtehiabiahipkhaaGreatB5
import Derived.Test.YtehiabiahipkhaaGreatA8
namespace Go.Proofs.YtehiabiahipkhaaGreat
open Go.RowKit
set_option linter.unusedVariables false
set_option linter.unusedSimpArgs false

theorem wrapU (x : Nat) (h : x < 18446744073709551616) : IntKind.u64.wrap (x : Int) = (x : Int) := Mul64.wrapN x h

theorem uplus_any (a b p : Nat) (ha : a < p) (hb : b < p) (hp : p < 18446744073709551616) (w : World) :
    Calls Tryz.prog 44 #[.int .u64 a, .int .u64 b, .int .u64 p] w fun e w' => e = .returned (.int .u64 ((a + b) % p : Nat)) ∧ Bel w w' := by
  obtain ⟨z, hz⟩ : ∃ z, (a + b) % p = z := ⟨_, rfl⟩
  rw [hz]
  obtain ⟨d, hd⟩ : ∃ d, p - b = d := ⟨_, rfl⟩
  have f1 : IntKind.u64.wrap ((p : Int) - b) = (d : Int) := by
    rw [show (p : Int) - b = (d : Int) by omega]; exact wrapU d (by omega)
  by_cases h : d ≤ a
  · have hz2 : a - d = z := by rw [← hz, Nat.mod_eq_sub_mod (by omega), Nat.mod_eq_of_lt (by omega)]; omega
    have g : (d : Int) ≤ a := by omega
    have f2 : IntKind.u64.wrap ((a : Int) - d) = (z : Int) := by
      rw [show (a : Int) - d = (z : Int) by omega]; exact wrapU z (by omega)
    clear hz hd ha hb hp h hz2
    go_enter Tryz.func44, Tryz.ntmps44
    go_wp2_with fail
    go_ret
    exact ⟨rfl, Bel.refl w⟩
  · have hz2 : a + b = z := by rw [← hz, Nat.mod_eq_of_lt (by omega)]
    have g : ¬ ((d : Int) ≤ a) := by omega
    have f2 : IntKind.u64.wrap ((a : Int) + b) = (z : Int) := by
      rw [show (a : Int) + b = (z : Int) by omega]; exact wrapU z (by omega)
    clear hz hd ha hb hp h hz2
    go_enter Tryz.func44, Tryz.ntmps44
    go_wp2_with fail
    go_ret
    exact ⟨rfl, Bel.refl w⟩

/-- The doubling's loop. -/
def DubI (p P S A B : Nat) : Prop := (S + A * B) % p = P % p ∧ S < p ∧ A < p
theorem DubI.odd {p P S A B : Nat} (h : DubI p P S A B) (ho : B % 2 = 1) : DubI p P ((S + A) % p) ((A + A) % p) (B / 2) := by
  have hp : 0 < p := by have := h.2.1; omega
  refine ⟨?_, Nat.mod_lt _ hp, Nat.mod_lt _ hp⟩
  rw [← h.1]
  have e : B = 2 * (B / 2) + 1 := by omega
  rw [Nat.add_mod, Nat.mod_mod, Nat.mod_mul_mod, ← Nat.add_mod]
  conv => rhs; rw [e]
  congr 1
  rw [Nat.mul_add, Nat.mul_one, ← Nat.mul_assoc, Nat.mul_two]
  omega
theorem DubI.even {p P S A B : Nat} (h : DubI p P S A B) (ho : B % 2 = 0) : DubI p P S ((A + A) % p) (B / 2) := by
  have hp : 0 < p := by have := h.2.1; omega
  refine ⟨?_, h.2.1, Nat.mod_lt _ hp⟩
  rw [← h.1]
  have e : B = 2 * (B / 2) := by omega
  rw [Nat.add_mod, Nat.mod_mul_mod, ← Nat.add_mod]
  conv => rhs; rw [e]
  rw [← Nat.mul_assoc, Nat.mul_two]

set_option maxHeartbeats 2000000 in
theorem times_any (a b p : Nat) (ha : a < p) (hb : b < p) (hp : p < 18446744073709551616) (w : World) :
    Calls Tryz.prog 25 #[.int .u64 a, .int .u64 b, .int .u64 p] w fun e w' => e = .returned (.int .u64 (a * b % p : Nat)) ∧ Bel w w' := by
  have HI : Hid (DubI p (a * b) 0 a b) := ⟨by rw [Nat.zero_add], by omega, ha⟩
  have HN : Hid (b < 18446744073709551616) := by unfold Hid; omega
  have HP := Lib.hid hp
  clear ha hb hp
  go_enter Tryz.func25, Tryz.ntmps25
  go_wp2_with fail
  go_loopw [0, 1, 7] (fun x y s wr => ∃ A B S : Nat, x = .int .u64 A ∧ y = .int .u64 B ∧ s = .int .u64 S ∧ DubI p (a * b) S A B ∧ B < 18446744073709551616 ∧ Bel w wr) (fun _ y _ _ => (intOf y).toNat)
  case atStart => exact ⟨_, _, 0, rfl, rfl, rfl, HI.out, HN.out, Bel.refl w⟩
  case round =>
    obtain ⟨A, N, S, rfl, rfl, rfl, hI, hN, hbw⟩ := hrel
    by_cases h0 : N = 0
    · subst h0
      have HI2 := Lib.hid hI
      have HBW := Lib.hid hbw
      clear hI hbw hN
      go_wp2_with fail
      go_ret
      have h1 := HI2.out.1
      rw [Nat.mul_zero, Nat.add_zero, Nat.mod_eq_of_lt HI2.out.2.1] at h1
      rw [h1]
      exact ⟨rfl, HBW.out⟩
    · have g0 : (0 : Int) < N := by omega
      obtain ⟨N2, hN2⟩ : ∃ N2, N / 2 = N2 := ⟨_, rfl⟩
      have t1 : (N : Int).tdiv 2 = (N2 : Int) := by rw [Int.tdiv_eq_ediv_of_nonneg (by omega)]; omega
      have t2 := Mul64.wrapN N2 (by omega)
      have HM1 := Lib.hid (fun w => uplus_any S A p hI.2.1 hI.2.2 HP.out w)
      have HM2 := Lib.hid (fun w => uplus_any A A p hI.2.2 hI.2.2 HP.out w)
      have HBW := Lib.hid hbw
      by_cases ho : N % 2 = 1
      · have t3 : (N : Int).tmod 2 = 1 := by rw [Int.tmod_eq_emod_of_nonneg (by omega)]; omega
        have HI2 := Lib.hid (hI.odd ho)
        rw [hN2] at HI2
        have HN2 : Hid (N2 < N ∧ N2 < 18446744073709551616) := ⟨by omega, by omega⟩
        clear hI hbw hN hN2 ho h0
        go_wp2_with fail
        refine (HM1.out _).mono ?_
        rintro e w1 ⟨rfl, hb1⟩
        have HB1 := Lib.hid (HBW.out.trans hb1)
        clear hb1
        go_wp2_with fail
        refine (HM2.out _).mono ?_
        rintro e w2 ⟨rfl, hb2⟩
        have HB2 := Lib.hid (HB1.out.trans hb2)
        clear hb2
        go_wp2_with fail
        go_roundw
        case rel => exact ⟨_, _, _, rfl, rfl, rfl, HI2.out, HN2.out.2, HB2.out⟩
        case measure => have := HN2.out.1; simp [intOf]; omega
      · have t3 : (N : Int).tmod 2 = 0 := by rw [Int.tmod_eq_emod_of_nonneg (by omega)]; omega
        have HI2 := Lib.hid (hI.even (by omega))
        rw [hN2] at HI2
        have HN2 : Hid (N2 < N ∧ N2 < 18446744073709551616) := ⟨by omega, by omega⟩
        clear hI hbw hN hN2 ho h0
        go_wp2_with fail
        refine (HM2.out _).mono ?_
        rintro e w2 ⟨rfl, hb2⟩
        have HB2 := Lib.hid (HBW.out.trans hb2)
        clear hb2
        go_wp2_with fail
        go_roundw
        case rel => exact ⟨_, _, _, rfl, rfl, rfl, HI2.out, HN2.out.2, HB2.out⟩
        case measure => have := HN2.out.1; simp [intOf]; omega

theorem nprime_any (w : World) : Calls Tryz.prog 22 #[] w fun e w' => e = .returned (.int .u64 (pr : Nat)) ∧ Bel w w' := by
  go_enter Tryz.func22, Tryz.ntmps22
  go_wp2_with fail
  go_ret
  exact ⟨rfl, Bel.refl w⟩

set_option maxHeartbeats 2000000 in
theorem check_yes (b off cap n : Nat) (xs : List Nat) (w : World) (h : Dv n) (hl : xs.length = n) (hp : ∀ x ∈ xs, x < pr)
    (hx : ∀ i, i < n → w.cell? ⟨b, off + i, none⟩ = some (nV (xs.getD i 0))) :
    Calls Tryz.prog 41 #[.slice (some ⟨b, off, none⟩) n cap] w fun e w' => e = .returned (.int .i64 0) ∧ Bel w w' := by
  have HX := Lib.hid hx
  have HPP : Hid (∀ i, i < n → xs.getD i 0 < pr) := fun i hi => by
    rw [List.getD_eq_getElem?_getD, List.getElem?_eq_getElem (by omega)]
    exact hp _ (List.getElem_mem _)
  have HR := Lib.hid (fun w => right_yes n h.1 h.2.1 h.2.2 w)
  have hn := h.2.1
  clear hx hp hl h
  go_enter Tryz.func41, Tryz.ntmps41
  go_wp2_with fail
  refine (HR.out _).mono ?_
  rintro e w1 ⟨rfl, rfl⟩
  go_wp2_with fail
  go_loopw [11] (fun i wr => ∃ k : Nat, k ≤ n ∧ i = .int .i64 k ∧ Bel w wr) (fun i _ => n - (intOf i).toNat)
  case atStart => exact ⟨0, Nat.zero_le _, rfl, Bel.refl w⟩
  case round =>
    obtain ⟨k, hk, rfl, hbw⟩ := hrel
    by_cases hlt : k < n
    · have hki : (k : Int) < n := by omega
      have hc := hbw.cellv (HX.out k hlt)
      have hlp := HPP.out k hlt
      obtain ⟨x, hxx⟩ : ∃ x, xs.getD k 0 = x := ⟨_, rfl⟩
      rw [hxx] at hc hlp
      have g : ¬ ((18446744069414584321 : Int) ≤ x) := by rw [pr_eq] at hlp; omega
      have HBW := Lib.hid hbw
      clear hbw hlp hxx
      go_wp2_with fail
      go_roundw
      case rel => exact ⟨k + 1, by omega, by go_num, HBW.out⟩
      case measure => simp [intOf]; omega
    · have hkl : k = n := by omega
      subst hkl
      have HBW := Lib.hid hbw
      clear hbw
      go_wp2_with fail
      go_ret
      exact ⟨rfl, HBW.out⟩

set_option maxHeartbeats 2000000 in
theorem nLine_any (b off cap n : Nat) (xs : List Nat) (w : World) (h : Dv n) (hl : xs.length = n) (hp : ∀ x ∈ xs, x < pr)
    (hx : ∀ i, i < n → w.cell? ⟨b, off + i, none⟩ = some (nV (xs.getD i 0))) :
    Calls Tryz.prog 23 #[.slice (some ⟨b, off, none⟩) n cap] w fun e w' =>
      (∃ g c, e = .returned (.tuple #[.slice (some ⟨g, 0, none⟩) n c, .int .i64 0]) ∧ w.heap.size ≤ g ∧ NArr w' g c (nline 8 xs (rootN n))) ∧ Bel w w' := by
  have HC := Lib.hid (check_yes b off cap n xs w h hl hp hx)
  have HR := Lib.hid (fun w => root_any n h.1 h.2.1 w)
  have HL := Lib.hid (fun (W : World) (hb : Bel w W) => nline_any 8 b off n cap (rootN n) xs W hl h.2.2 h.2.1 (by have := h.2.1; omega) (rootN_lt n) hp (fun i hi => hb.cellv (hx i hi)))
  have hn := h.2.1
  clear hx hp hl h
  go_enter Tryz.func23, Tryz.ntmps23
  go_wp2_with fail
  refine HC.out.mono ?_
  rintro e w1 ⟨rfl, hb1⟩
  have HB1 := Lib.hid hb1
  clear hb1
  go_wp2_with fail
  refine (HR.out _).mono ?_
  rintro e w2 ⟨rfl, hb2⟩
  have HB2 := Lib.hid (HB1.out.trans hb2)
  clear hb2
  go_wp2_with fail
  refine (HL.out _ HB2.out).mono ?_
  rintro e w3 ⟨⟨g, c, rfl, _, hg, ha⟩, hb3⟩
  have HG : Hid (w.heap.size ≤ g) := Nat.le_trans HB2.out.size hg
  have HA := Lib.hid ha
  have HB3 := Lib.hid (HB2.out.trans hb3)
  clear hb3 hg ha
  go_wp2_with fail
  refine bodyPost_ret (v := .tuple #[.slice (some ⟨g, 0, none⟩) n c, .int .i64 0]) (by simp [results, Tryz.results23, go_sem]) rfl ⟨⟨g, c, rfl, HG.out, HA.out⟩, HB3.out⟩

/-- Whole numbers modulo p. -/
def resI (p : Nat) (z : Int) : Nat := if z < 0 then p - z.natAbs else z.natAbs
def resL (p : Nat) (cs : List Int) (k : Nat) : List Nat := (List.range k).map fun i => resI p (cs.getD i 0)
theorem resL_succ (p : Nat) (cs : List Int) (k : Nat) : resL p cs (k + 1) = resL p cs k ++ [resI p (cs.getD k 0)] := by
  unfold resL; rw [List.range_succ, List.map_append]; rfl

theorem one_new (W : World) (y : Nat) (T : TypeId) : ∀ j, j < 1 → some (⟨W.heap.size, 0, none⟩ : Addr) = some ⟨W.heap.size, 0, none⟩ ∧ (W.alloc (.cells #[.int .u64 y] T)).cell? ⟨W.heap.size, 0 + j, none⟩ = some (nV ([y].getD j 0)) := by
  intro j hj
  obtain rfl : j = 0 := by omega
  exact ⟨rfl, cell_new _ _ _ 0⟩

set_option maxHeartbeats 4000000 in
set_option maxRecDepth 100000 in
theorem resline_any (p b off cap n : Nat) (cs : List Int) (w : World) (hp : 4611686018427387904 ≤ p ∧ p < 18446744073709551616) (h0 : 0 < n) (hn : n ≤ 192) (hs : ∀ i, (cs.getD i 0).natAbs ≤ 4611686018427387903)
    (hx : ∀ i, i < n → w.cell? ⟨b, off + i, none⟩ = some (iV (cs.getD i 0))) :
    Calls Tryz.prog 24 #[.slice (some ⟨b, off, none⟩) n cap, .int .u64 p] w fun e w' =>
      (∃ g c, e = .returned (.slice (some ⟨g, 0, none⟩) n c) ∧ w.heap.size ≤ g ∧ NArr w' g c (resL p cs n)) ∧ Bel w w' := by
  obtain ⟨i0, hi, hz0, hz1, hz2⟩ := info_parts' info_n
  have HX := Lib.hid hx
  have HSM := Lib.hid hs
  have HP := Lib.hid hp
  have HI := Lib.hid (And.intro hi (And.intro hz0 (And.intro hz1 hz2)))
  clear hx hs hp hi hz0 hz1 hz2
  go_enter Tryz.func24, Tryz.ntmps24
  go_wp2_with fail
  go_loopw [5, 10] (fun s i wr => ∃ k : Nat, k ≤ n ∧ i = .int .i64 k ∧ wr.ownsRow w.heap.size 59 1 s k ((resL p cs k).map nV) ∧ Bel w wr) (fun _ i _ => n - (intOf i).toNat)
  case atStart => exact ⟨0, Nat.zero_le _, rfl, World.ownsRow_nil _ _ _ _, Bel.refl w⟩
  case round =>
    obtain ⟨k, hk, rfl, hown, hbw⟩ := hrel
    by_cases hlt : k < n
    · have hki : (k : Int) < n := by omega
      have hc := hbw.cellv (HX.out k hlt)
      have hsm := HSM.out k
      have HST := Lib.hid (resL_succ p cs k)
      obtain ⟨x, hxx⟩ : ∃ x, cs.getD k 0 = x := ⟨_, rfl⟩
      rw [hxx] at hc hsm HST
      obtain ⟨hp1, hp2⟩ := HP.out
      obtain ⟨y, hy⟩ : ∃ y, resI p x = y := ⟨_, rfl⟩
      rw [hy] at HST
      unfold resI at hy
      have HBW := Lib.hid hbw
      have HOWN := Lib.hid hown
      by_cases hneg : x < 0
      · rw [if_pos hneg] at hy
        have f1 : IntKind.i64.wrap (-x) = ((x.natAbs : Nat) : Int) := by
          rw [show -x = ((x.natAbs : Nat) : Int) by omega]; exact IntWalk.i64_in _ (by omega)
        have f2 : IntKind.u64.wrap ((x.natAbs : Nat) : Int) = ((x.natAbs : Nat) : Int) := wrapU _ (by omega)
        have f3 : IntKind.u64.wrap ((p : Int) - ((x.natAbs : Nat) : Int)) = (y : Int) := by
          rw [show (p : Int) - ((x.natAbs : Nat) : Int) = (y : Int) by omega]; exact wrapU _ (by omega)
        generalize x.natAbs = ax at *
        clear hbw hown hp1 hp2 hsm hxx hy
        obtain ⟨hi, hz0, hz1, hz2⟩ := HI.out
        go_wp2_with (first
          | (at_builtin; (refine wpList_append_list rfl _ _ 61 rfl 59 i0 nV 0 8 Tryz.underlying61 hi hz0 hz1 hz2 rfl _ k (resL p cs k) rfl w (ownsRow_bel HOWN.out ((Bel.refl wr).alloc _)) (HBW.out.alloc _) (some ⟨wr.heap.size, 0, none⟩) wr.heap.size 0 1 1 [y] rfl rfl (fun h => by cases h) (one_new wr y _) (fun _ => rfl) (by omega) (by omega) ?_))
          | fail)
        intro v2 w3 hown3 hb3
        have hst : (resL p cs (k + 1)).map nV = (resL p cs k).map nV ++ [nV y] := by rw [HST.out, List.map_append]; rfl
        rw [← hst] at hown3
        have HO3 := Lib.hid hown3
        have HB3 := Lib.hid hb3
        clear hst hown3 hb3 hi hz0 hz1 hz2
        go_wp2_with fail
        go_roundw
        case rel => exact ⟨k + 1, by omega, by go_num, HO3.out, HB3.out⟩
        case measure => simp [intOf]; omega
      · rw [if_neg hneg] at hy
        have f2 : IntKind.u64.wrap x = (y : Int) := by
          rw [show x = (y : Int) by omega]; exact wrapU _ (by omega)
        clear hbw hown hp1 hp2 hsm hxx hy
        obtain ⟨hi, hz0, hz1, hz2⟩ := HI.out
        go_wp2_with (first
          | (at_builtin; (refine wpList_append_list rfl _ _ 61 rfl 59 i0 nV 0 8 Tryz.underlying61 hi hz0 hz1 hz2 rfl _ k (resL p cs k) rfl w (ownsRow_bel HOWN.out ((Bel.refl wr).alloc _)) (HBW.out.alloc _) (some ⟨wr.heap.size, 0, none⟩) wr.heap.size 0 1 1 [y] rfl rfl (fun h => by cases h) (one_new wr y _) (fun _ => rfl) (by omega) (by omega) ?_))
          | fail)
        intro v2 w3 hown3 hb3
        have hst : (resL p cs (k + 1)).map nV = (resL p cs k).map nV ++ [nV y] := by rw [HST.out, List.map_append]; rfl
        rw [← hst] at hown3
        have HO3 := Lib.hid hown3
        have HB3 := Lib.hid hb3
        clear hst hown3 hb3 hi hz0 hz1 hz2
        go_wp2_with fail
        go_roundw
        case rel => exact ⟨k + 1, by omega, by go_num, HO3.out, HB3.out⟩
        case measure => simp [intOf]; omega
    · have hkl : k = n := by omega
      subst hkl
      obtain ⟨g, c, rfl, hg, ha⟩ := arr_of_own hown (by simp [resL]) h0
      have hln : (resL p cs k).length = k := by simp [resL]
      rw [hln]
      have HA := Lib.hid ha
      have HBW := Lib.hid hbw
      have HG := Lib.hid hg
      clear hbw hown ha hg hln
      go_wp2_with fail
      go_ret
      exact ⟨⟨g, c, rfl, HG.out, HA.out⟩, HBW.out⟩

end Go.Proofs.YtehiabiahipkhaaGreat

namespace Go.Proofs.YtehiabiahipkhaaGreat
set_option linter.unusedVariables false
set_option linter.unusedSimpArgs false

theorem zs_front (f : Nat → Z) (n : Nat) : zs f (n + 1) = f 0 + zs (fun k => f (k + 1)) n := by
  induction n with
  | zero => show 0 + f 0 = f 0 + 0; grind
  | succ n ih => show zs f (n + 1) + f (n + 1) = f 0 + (zs (fun k => f (k + 1)) n + f (n + 1)); rw [ih]; grind
theorem zs_rot (f : Nat → Z) (n : Nat) : zs (fun x => f ((x + 1) % n)) n = zs f n := by
  cases n with
  | zero => rfl
  | succ k =>
    show zs (fun x => f ((x + 1) % (k + 1))) k + f ((k + 1) % (k + 1)) = zs f (k + 1)
    rw [Nat.mod_self, zs_front]
    have e : zs (fun x => f ((x + 1) % (k + 1))) k = zs (fun x => f (x + 1)) k := zs_congr fun x hx => by rw [Nat.mod_eq_of_lt (by omega)]
    rw [e]; grind
theorem zs_shift (f : Nat → Z) (n t : Nat) : zs (fun x => f ((x + t) % n)) n = zs f n := by
  induction t generalizing f with
  | zero => exact zs_congr fun x hx => by rw [Nat.add_zero, Nat.mod_eq_of_lt hx]
  | succ t ih =>
    rw [← ih f, ← zs_rot (fun x => f ((x + t) % n)) n]
    exact zs_congr fun x hx => by rw [Nat.mod_add_mod, show x + (t + 1) = x + 1 + t by omega]
theorem zp_mod {v : Z} {n : Nat} (h : zp v n = 1) (a : Nat) : zp v (a % n) = zp v a := by
  have e : a = n * (a / n) + a % n := (Nat.div_add_mod a n).symm
  have : zp v a = zp v (n * (a / n) + a % n) := congrArg _ e
  rw [this, zp_add, zp_mul, h, zp_of_one]
  grind
theorem zp_one_mul {v : Z} {n : Nat} (h : zp v n = 1) (a : Nat) : zp (zp v a) n = 1 := by
  rw [← zp_mul, Nat.mul_comm, zp_mul, h, zp_of_one]
theorem zp_turn {v : Z} {n i u j : Nat} (h : zp v n = 1) (hj : j < n) : zp v (j * u) = zp v ((n - j) % n * i) * zp v (j * ((i + u) % n)) := by
  rw [zp_mul v j ((i + u) % n), zp_mod (zp_one_mul h j), ← zp_mul, zp_mul v ((n - j) % n) i, zp_mod h, ← zp_mul, ← zp_add]
  have e : (n - j) * i + j * (i + u) = n * i + j * u := by
    rw [Nat.mul_add, ← Nat.add_assoc, ← Nat.add_mul, show n - j + j = n by omega]
  rw [e, zp_add, zp_mul v n i, h, zp_of_one]
  grind

/-- The transform of the sums. -/
theorem dft_auto {n : Nat} (a : Nat → Z) {v : Z} (hv : zp v n = 1) (j : Nat) (hj : j < n) :
    dft (fun u => zs (fun i => a i * a ((i + u) % n)) n) v n j = dft a v n j * dft a v n ((n - j) % n) := by
  have h1 : dft (fun u => zs (fun i => a i * a ((i + u) % n)) n) v n j = zs (fun u => zs (fun i => (a i * zp v ((n - j) % n * i)) * (a ((u + i) % n) * zp v (j * ((u + i) % n)))) n) n := by
    refine zs_congr fun u hu => ?_
    rw [← zs_mulr]
    refine zs_congr fun i hi => ?_
    rw [zp_turn (i := i) (u := u) hv hj, Nat.add_comm u i]
    grind
  rw [h1, zs_swap]
  have h2 : zs (fun i => zs (fun u => (a i * zp v ((n - j) % n * i)) * (a ((u + i) % n) * zp v (j * ((u + i) % n)))) n) n = zs (fun i => (a i * zp v ((n - j) % n * i)) * dft a v n j) n := by
    refine zs_congr fun i hi => ?_
    rw [zs_mul, zs_shift (fun x => a x * zp v (j * x)) n i]
    rfl
  rw [h2, zs_mulr]
  show dft a v n ((n - j) % n) * dft a v n j = _
  grind

theorem resI_lt {z : Int} (h : z.natAbs < pr) : resI pr z < pr := by
  unfold resI; split <;> omega
theorem zc_resI {z : Int} (h : z.natAbs < pr) : zc (resI pr z) = zi z := z_ext (by
  rw [zi_val, zc_val, Nat.mod_eq_of_lt (resI_lt h)]
  unfold resI
  split
  · rename_i hz
    have e : z % (pr : Int) = z + (pr : Int) := by
      rw [← Int.add_emod_right, Int.emod_eq_of_lt]
      · omega
      · omega
    rw [e]; omega
  · rename_i hz
    rw [Int.emod_eq_of_lt (by omega) (by omega)]; omega)
theorem resL_length (p : Nat) (cs : List Int) (n : Nat) : (resL p cs n).length = n := by simp [resL]
theorem resL_get (p : Nat) (cs : List Int) (n : Nat) {i : Nat} (hi : i < n) : (resL p cs n).getD i 0 = resI p (cs.getD i 0) := by simp [resL, hi]
theorem resL_lt {cs : List Int} (h : ∀ i, (cs.getD i 0).natAbs < pr) (n : Nat) : ∀ x ∈ resL pr cs n, x < pr := fun x hx => by
  obtain ⟨i, _, rfl⟩ := List.mem_map.1 hx
  exact resI_lt (h i)
theorem movN_one {n i u : Nat} (hi : i < n) (hu : u < n) : movN 1 1 n i u = (i + u) % n := by
  unfold movN
  rw [Nat.mod_eq_of_lt hi, Nat.mod_eq_of_lt hu]
  simp [Nat.mod_one]

/-- THE LAW: place by place, the product. -/
theorem turned_at {n : Nat} (h : Dv n) (cs : List Int) (h1 : ∀ i, (cs.getD i 0).natAbs < pr) (h2 : ∀ i, ((autoL 1 1 n n cs).getD i 0).natAbs < pr) (j : Nat) (hj : j < n) :
    (nline 8 (resL pr (autoL 1 1 n n cs) n) (rootN n)).getD j 0 = mulP ((nline 8 (resL pr cs n) (rootN n)).getD j 0) ((nline 8 (resL pr cs n) (rootN n)).getD ((n - j) % n) 0) := by
  have hn8 : n < 2 ^ 8 := by have := h.2.1; omega
  have hX : ∀ k, k < n → zc ((nline 8 (resL pr cs n) (rootN n)).getD k 0) = dft (fun i => zi (cs.getD i 0)) (zc (rootN n)) n k := fun k hk => by
    rw [nline_dft 8 _ _ n (resL_length _ _ _) h.1 hn8 (root_Rt h) k hk]
    exact dft_congr fun i hi => by rw [resL_get _ _ _ hi, zc_resI (h1 i)]
  refine zc_inj (all_getD (nline_lt _ _ _) j) (mulP_lt _ _) ?_
  rw [zc_mulP, hX j hj, hX _ (Nat.mod_lt _ h.1), nline_dft 8 _ _ n (resL_length _ _ _) h.1 hn8 (root_Rt h) j hj, ← dft_auto _ (root_Rt h).1 j hj]
  refine dft_congr fun u hu => ?_
  rw [resL_get _ _ _ hu, zc_resI (h2 u), autoL_get _ _ _ _ _ _ hu]
  unfold autoS
  rw [zi_isum]
  refine zs_congr fun i hi => ?_
  rw [zi_mul, movN_one hi hu]

end Go.Proofs.YtehiabiahipkhaaGreat
