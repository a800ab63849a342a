/-
  The walks of patterson.number and patterson.place.
  The walk of patterson.within.
  The walk of patterson.sides (printed by gen_pc.py).
-/
import Derived.Test.YtehiabiahipkhaaGreatA7
import Derived.Deep.RegionHeld3
namespace Go.Proofs.YtehiabiahipkhaaGreat
open Go.RowKit
set_option linter.unusedVariables false
set_option linter.unusedSimpArgs false

/-- A vector. -/
abbrev vecV (a b c : Int) : Value := .agg #[.int .i64 a, .int .i64 b, .int .i64 c]

theorem number_any (a b c n0 n1 n2 : Nat) (w : World) (h0 : a < n0) (h1 : b < n1) (h2 : c < n2) (b0 : n0 ≤ 192) (b1 : n1 ≤ 192) (b2 : n2 ≤ 192) :
    Calls Tryz.prog 30 #[vecV n0 n1 n2, vecV a b c] w fun e w' => e = .returned (.int .i64 ((a * n1 + b) * n2 + c : Nat)) ∧ Bel w w' := by
  have p1 : a * n1 ≤ 192 * 192 := Nat.mul_le_mul (by omega) (by omega)
  have p2 : (a * n1 + b) * n2 ≤ (192 * 192 + 192) * 192 := Nat.mul_le_mul (by omega) (by omega)
  have q1 : (a : Int) * n1 = ((a * n1 : Nat) : Int) := by simp
  have q2 : ((a * n1 : Nat) : Int) + b = ((a * n1 + b : Nat) : Int) := by simp
  have q3 : ((a * n1 + b : Nat) : Int) * n2 = (((a * n1 + b) * n2 : Nat) : Int) := by simp
  have q4 : (((a * n1 + b) * n2 : Nat) : Int) + c = (((a * n1 + b) * n2 + c : Nat) : Int) := by simp
  have r1 : IntKind.i64.wrap ((a * n1 : Nat) : Int) = ((a * n1 : Nat) : Int) := IntWalk.i64_in _ (by omega)
  have r2 : IntKind.i64.wrap ((a * n1 + b : Nat) : Int) = ((a * n1 + b : Nat) : Int) := IntWalk.i64_in _ (by omega)
  have r3 : IntKind.i64.wrap (((a * n1 + b) * n2 : Nat) : Int) = (((a * n1 + b) * n2 : Nat) : Int) := IntWalk.i64_in _ (by omega)
  have r4 : IntKind.i64.wrap (((a * n1 + b) * n2 + c : Nat) : Int) = (((a * n1 + b) * n2 + c : Nat) : Int) := IntWalk.i64_in _ (by omega)
  generalize (a * n1 + b) * n2 + c = z4 at *
  generalize (a * n1 + b) * n2 = z3 at *
  generalize a * n1 + b = z2 at *
  generalize a * n1 = z1 at *
  have hb : Bel w ((w.alloc (.cells #[.int .i64 n0, .int .i64 n1, .int .i64 n2] 23)).alloc (.cells #[.int .i64 a, .int .i64 b, .int .i64 c] 23)) := ((Bel.refl w).alloc _).alloc _
  have HB := Lib.hid hb
  clear hb p1 p2
  go_enter Tryz.func30, Tryz.ntmps30
  go_wp2_with fail
  go_ret
  exact ⟨rfl, HB.out⟩

theorem vec_set {W : World} {p : Nat} {u0 u1 u2 : Value} (h0 : W.cell? ⟨p, 0, none⟩ = some u0) (h1 : W.cell? ⟨p, 1, none⟩ = some u1) (h2 : W.cell? ⟨p, 2, none⟩ = some u2) (a b c : Value) :
    (((W.setCell ⟨p, 0, none⟩ a).setCell ⟨p, 1, none⟩ b).setCell ⟨p, 2, none⟩ c).cell? ⟨p, 0, none⟩ = some a ∧ (((W.setCell ⟨p, 0, none⟩ a).setCell ⟨p, 1, none⟩ b).setCell ⟨p, 2, none⟩ c).cell? ⟨p, 1, none⟩ = some b ∧
    (((W.setCell ⟨p, 0, none⟩ a).setCell ⟨p, 1, none⟩ b).setCell ⟨p, 2, none⟩ c).cell? ⟨p, 2, none⟩ = some c := by
  refine ⟨?_, ?_, ?_⟩ <;> go_simp
theorem cell_keep {W : World} {p q : Nat} {i j : Nat} {u x : Value} (h : W.cell? ⟨p, i, none⟩ = some u) (hne : p ≠ q) : (W.setCell ⟨q, j, none⟩ x).cell? ⟨p, i, none⟩ = some u := cell_far h hne

set_option maxHeartbeats 2000000 in
theorem place_any (n0 n1 n2 i : Nat) (w : World) (a1 : 1 ≤ n1) (a2 : 1 ≤ n2) (b1 : n1 ≤ 192) (b2 : n2 ≤ 192) (hi : i < 262144) :
    Calls Tryz.prog 29 #[vecV n0 n1 n2, .int .i64 i] w fun e w' => e = .returned (vecV (i / n2 / n1 : Nat) (i / n2 % n1 : Nat) (i % n2 : Nat)) ∧ Bel w w' := by
  obtain ⟨q, hq⟩ : ∃ q, i / n2 = q := ⟨_, rfl⟩
  obtain ⟨x, hx⟩ : ∃ x, q / n1 = x := ⟨_, rfl⟩
  obtain ⟨y, hy⟩ : ∃ y, q % n1 = y := ⟨_, rfl⟩
  obtain ⟨z, hz⟩ : ∃ z, i % n2 = z := ⟨_, rfl⟩
  have hql : q ≤ i := by rw [← hq]; exact Nat.div_le_self _ _
  have hxl : x ≤ q := by rw [← hx]; exact Nat.div_le_self _ _
  have hyl : y < n1 := by rw [← hy]; exact Nat.mod_lt _ (by omega)
  have hzl : z < n2 := by rw [← hz]; exact Nat.mod_lt _ (by omega)
  have t1 : (i : Int).tdiv n2 = (q : Int) := by rw [Int.tdiv_eq_ediv_of_nonneg (by omega), ← hq]; exact (Int.natCast_ediv i n2).symm
  have t2 : (q : Int).tdiv n1 = (x : Int) := by rw [Int.tdiv_eq_ediv_of_nonneg (by omega), ← hx]; exact (Int.natCast_ediv q n1).symm
  have t3 : (q : Int).tmod n1 = (y : Int) := by rw [Int.tmod_eq_emod_of_nonneg (by omega), ← hy]; exact (Int.natCast_emod q n1).symm
  have t4 : (i : Int).tmod n2 = (z : Int) := by rw [Int.tmod_eq_emod_of_nonneg (by omega), ← hz]; exact (Int.natCast_emod i n2).symm
  have w1 : IntKind.i64.wrap (q : Int) = (q : Int) := IntWalk.i64_in _ (by omega)
  have w2 : IntKind.i64.wrap (x : Int) = (x : Int) := IntWalk.i64_in _ (by omega)
  have w3 : IntKind.i64.wrap (y : Int) = (y : Int) := IntWalk.i64_in _ (by omega)
  have w4 : IntKind.i64.wrap (z : Int) = (z : Int) := IntWalk.i64_in _ (by omega)
  have z1 : ¬ n1 = 0 := by omega
  have z2 : ¬ n2 = 0 := by omega
  rw [hq, hx, hy, hz]
  clear hq hx hy hz hql hxl hyl hzl
  have K := (v3_new w n0 n1 n2 23).bel ((Bel.refl _).alloc (.cells #[.int .i64 0, .int .i64 0, .int .i64 0] 23))
  have HB : Hid (Bel w ((w.alloc (.cells #[.int .i64 n0, .int .i64 n1, .int .i64 n2] 23)).alloc (.cells #[.int .i64 0, .int .i64 0, .int .i64 0] 23))) := ((Bel.refl w).alloc _).alloc _
  have HK := Lib.hid K
  clear K
  go_enter Tryz.func29, Tryz.ntmps29
  go_wp2_with fail
  obtain ⟨k0, k1, k2⟩ := HK.out
  have G : Hid (∀ i, i < 3 → ((w.alloc (.cells #[.int .i64 n0, .int .i64 n1, .int .i64 n2] 23)).alloc (.cells #[.int .i64 0, .int .i64 0, .int .i64 0] 23)).cell? ⟨w.heap.size + 1, i, none⟩ = some (.int .i64 0) ∧ ((w.alloc (.cells #[.int .i64 n0, .int .i64 n1, .int .i64 n2] 23)).alloc (.cells #[.int .i64 0, .int .i64 0, .int .i64 0] 23)).frozen? ⟨w.heap.size + 1, i, none⟩ = false) := fun i hi => by
    refine ⟨?_, frozen_new2 _ _ _ _ _⟩
    rw [cell_new2]
    rcases (by omega : i = 0 ∨ i = 1 ∨ i = 2) with rfl | rfl | rfl <;> rfl
  generalize World.alloc _ _ = W at HB HK k0 k1 k2 G ⊢
  obtain ⟨g0, f0⟩ := G.out 0 (by omega)
  obtain ⟨g1, f1⟩ := G.out 1 (by omega)
  obtain ⟨g2, f2⟩ := G.out 2 (by omega)
  have hb0 : Bel W W.drew := (Bel.refl W).drew
  go_region_held3 (fun w' => w'.cell? ⟨w.heap.size, 1, none⟩ = some (.int .i64 n1) ∧ w'.cell? ⟨w.heap.size, 2, none⟩ = some (.int .i64 n2)) (first | exact ⟨k1, k2⟩ | exact ⟨cell_keep (cell_keep (cell_keep k1 (by omega)) (by omega)) (by omega), cell_keep (cell_keep (cell_keep k2 (by omega)) (by omega)) (by omega)⟩) (fail)
  go_wp2_with fail
  obtain ⟨r0, r1, r2⟩ := vec_set g0 g1 g2 (.int .i64 x) (.int .i64 y) (.int .i64 z)
  have hle : w.heap.size ≤ w.heap.size + 1 := by omega
  refine bodyPost_ret (v := vecV x y z) (by simp [results, Tryz.results29, go_sem, r0, r1, r2]) rfl ⟨rfl, ?_⟩
  exact (((HB.out.setCell (p := ⟨w.heap.size + 1, 0, none⟩) hle _).setCell (p := ⟨w.heap.size + 1, 1, none⟩) hle _).setCell (p := ⟨w.heap.size + 1, 2, none⟩) hle _).drew

end Go.Proofs.YtehiabiahipkhaaGreat

namespace Go.Proofs.YtehiabiahipkhaaGreat
open Go.RowKit
set_option linter.unusedVariables false
set_option linter.unusedSimpArgs false

/-- Three cells of ints that may be written. -/
def I3 (W : World) (p : Nat) (a b c : Int) : Prop :=
  (W.cell? ⟨p, 0, none⟩ = some (.int .i64 a) ∧ W.cell? ⟨p, 1, none⟩ = some (.int .i64 b) ∧ W.cell? ⟨p, 2, none⟩ = some (.int .i64 c)) ∧ W.frozen? ⟨p, 0, none⟩ = false ∧ W.frozen? ⟨p, 1, none⟩ = false ∧ W.frozen? ⟨p, 2, none⟩ = false
theorem I3.bel {W W' : World} {p : Nat} {a b c : Int} (h : I3 W p a b c) (hb : Bel W W') : I3 W' p a b c :=
  ⟨⟨hb.cellv h.1.1, hb.cellv h.1.2.1, hb.cellv h.1.2.2⟩, (hb.frozen (World.block_lt_of_cell? _ _ h.1.1)).trans h.2.1, (hb.frozen (World.block_lt_of_cell? _ _ h.1.2.1)).trans h.2.2.1, (hb.frozen (World.block_lt_of_cell? _ _ h.1.2.2)).trans h.2.2.2⟩
theorem i3_new (W : World) (a b c : Int) (T : TypeId) : I3 (W.alloc (.cells #[.int .i64 a, .int .i64 b, .int .i64 c] T)) W.heap.size a b c :=
  ⟨⟨cell_new _ _ _ 0, cell_new _ _ _ 1, cell_new _ _ _ 2⟩, frozen_new _ _ _ _, frozen_new _ _ _ _, frozen_new _ _ _ _⟩
theorem I3.far {W : World} {p : Nat} {a b c : Int} (h : I3 W p a b c) {q : Addr} (hq : p ≠ q.block) (x : Value) : I3 (W.setCell q x) p a b c :=
  ⟨⟨cell_far h.1.1 hq, cell_far h.1.2.1 hq, cell_far h.1.2.2 hq⟩, by simpa using h.2.1, by simpa using h.2.2.1, by simpa using h.2.2.2⟩
theorem I3.set0 {W : World} {p : Nat} {a b c : Int} (h : I3 W p a b c) (x : Int) : I3 (W.setCell ⟨p, 0, none⟩ (.int .i64 x)) p x b c := by
  obtain ⟨⟨h0, h1, h2⟩, f0, f1, f2⟩ := h
  refine ⟨⟨?_, ?_, ?_⟩, by simpa using f0, by simpa using f1, by simpa using f2⟩ <;> go_simp
theorem I3.set1 {W : World} {p : Nat} {a b c : Int} (h : I3 W p a b c) (x : Int) : I3 (W.setCell ⟨p, 1, none⟩ (.int .i64 x)) p a x c := by
  obtain ⟨⟨h0, h1, h2⟩, f0, f1, f2⟩ := h
  refine ⟨⟨?_, ?_, ?_⟩, by simpa using f0, by simpa using f1, by simpa using f2⟩ <;> go_simp
theorem I3.set2 {W : World} {p : Nat} {a b c : Int} (h : I3 W p a b c) (x : Int) : I3 (W.setCell ⟨p, 2, none⟩ (.int .i64 x)) p a b x := by
  obtain ⟨⟨h0, h1, h2⟩, f0, f1, f2⟩ := h
  refine ⟨⟨?_, ?_, ?_⟩, by simpa using f0, by simpa using f1, by simpa using f2⟩ <;> go_simp

theorem tmod_two (v : Int) (n : Nat) : v.tmod n = v % n ∨ v.tmod n = v % n - n := by
  rw [Int.tmod_eq_emod]
  split
  · exact Or.inl (Int.sub_zero _)
  · exact Or.inr (by simp)
/-- What '(v % n + n) % n' is made of. -/
theorem mod_facts (v : Int) (n : Nat) (h1 : 1 ≤ n) (h2 : n ≤ 192) (hv : v.natAbs ≤ 1000000) : ∃ m : Int, v.tmod n = m ∧ IntKind.i64.wrap m = m ∧ IntKind.i64.wrap (m + n) = m + n ∧ (m + n).tmod n = v % n ∧ IntKind.i64.wrap (v % n) = v % n := by
  have k1 := Int.emod_nonneg v (show (n : Int) ≠ 0 by omega)
  have k2 := Int.emod_lt_of_pos v (show (0 : Int) < n by omega)
  have k3 := tmod_two v n
  have k4 : (v.tmod n + n).tmod n = v % n := by
    rw [Int.tmod_eq_emod_of_nonneg (by omega)]
    rcases k3 with e | e
    · rw [e, Int.add_emod_right, Int.emod_emod_of_dvd _ (Int.dvd_refl _)]
    · rw [e, Int.sub_add_cancel, Int.emod_emod_of_dvd _ (Int.dvd_refl _)]
  generalize v % (n : Int) = u at *
  exact ⟨v.tmod n, rfl, IntWalk.i64_in _ (by omega), IntWalk.i64_in _ (by omega), k4, IntWalk.i64_in _ (by omega)⟩

set_option maxHeartbeats 4000000 in
theorem within_any (n0 n1 n2 : Nat) (v0 v1 v2 : Int) (w : World) (a0 : 1 ≤ n0 ∧ n0 ≤ 192) (a1 : 1 ≤ n1 ∧ n1 ≤ 192) (a2 : 1 ≤ n2 ∧ n2 ≤ 192) (c0 : v0.natAbs ≤ 1000000) (c1 : v1.natAbs ≤ 1000000) (c2 : v2.natAbs ≤ 1000000) :
    Calls Tryz.prog 31 #[vecV n0 n1 n2, vecV v0 v1 v2] w fun e w' => e = .returned (vecV (v0 % n0) (v1 % n1) (v2 % n2)) ∧ Bel w w' := by
  have HM0 := Lib.hid (mod_facts v0 n0 a0.1 a0.2 c0)
  have HM1 := Lib.hid (mod_facts v1 n1 a1.1 a1.2 c1)
  have HM2 := Lib.hid (mod_facts v2 n2 a2.1 a2.2 c2)
  have HN : Hid (1 ≤ n0 ∧ 1 ≤ n1 ∧ 1 ≤ n2) := ⟨a0.1, a1.1, a2.1⟩
  clear a0 a1 a2 c0 c1 c2
  go_enter Tryz.func31, Tryz.ntmps31
  go_wp2_with fail
  have K2 : Hid (V3 (((w.alloc (.cells #[.int .i64 n0, .int .i64 n1, .int .i64 n2] 23)).alloc (.cells #[.int .i64 v0, .int .i64 v1, .int .i64 v2] 23)).alloc (.cells #[.int .i64 0, .int .i64 0, .int .i64 0] 23)) w.heap.size n0 n1 n2) := ((v3_new w n0 n1 n2 _).bel ((Bel.refl _).alloc _)).bel ((Bel.refl _).alloc _)
  have z1 : (w.alloc (.cells #[.int .i64 n0, .int .i64 n1, .int .i64 n2] 23)).heap.size = w.heap.size + 1 := size_alloc' _ _
  have K3 : Hid (I3 (((w.alloc (.cells #[.int .i64 n0, .int .i64 n1, .int .i64 n2] 23)).alloc (.cells #[.int .i64 v0, .int .i64 v1, .int .i64 v2] 23)).alloc (.cells #[.int .i64 0, .int .i64 0, .int .i64 0] 23)) (w.heap.size + 1) v0 v1 v2) := by rw [← z1]; exact (i3_new _ _ _ _ _).bel ((Bel.refl _).alloc _)
  have z2 : ((w.alloc (.cells #[.int .i64 n0, .int .i64 n1, .int .i64 n2] 23)).alloc (.cells #[.int .i64 v0, .int .i64 v1, .int .i64 v2] 23)).heap.size = w.heap.size + 1 + 1 := by rw [size_alloc', z1]
  have K4 : Hid (I3 (((w.alloc (.cells #[.int .i64 n0, .int .i64 n1, .int .i64 n2] 23)).alloc (.cells #[.int .i64 v0, .int .i64 v1, .int .i64 v2] 23)).alloc (.cells #[.int .i64 0, .int .i64 0, .int .i64 0] 23)) (w.heap.size + 1 + 1) 0 0 0) := by rw [← z2]; exact i3_new _ _ _ _ _
  have HB : Hid (Bel w (((w.alloc (.cells #[.int .i64 n0, .int .i64 n1, .int .i64 n2] 23)).alloc (.cells #[.int .i64 v0, .int .i64 v1, .int .i64 v2] 23)).alloc (.cells #[.int .i64 0, .int .i64 0, .int .i64 0] 23))) := (((Bel.refl w).alloc _).alloc _).alloc _
  clear z1 z2
  generalize World.alloc _ _ = W at K2 K3 K4 HB ⊢
  go_loopw [6] (fun i wr => ∃ j : Nat, i = .int .i64 j ∧ j ≤ 3 ∧ V3 wr w.heap.size n0 n1 n2 ∧ I3 wr (w.heap.size + 1) (if 1 ≤ j then v0 % n0 else v0) (if 2 ≤ j then v1 % n1 else v1) (if 3 ≤ j then v2 % n2 else v2) ∧ I3 wr (w.heap.size + 1 + 1) 0 0 0 ∧ Bel w wr) (fun i _ => 3 - (intOf i).toNat)
  case atStart => exact ⟨0, rfl, by omega, K2.out, K3.out, K4.out, HB.out⟩
  case round =>
    clear K2 K3 K4 HB
    obtain ⟨j, rfl, hj, hn, hv, hr, hbw⟩ := hrel
    rcases (by omega : j = 0 ∨ j = 1 ∨ j = 2 ∨ j = 3) with rfl | rfl | rfl | rfl
    · have HV : Hid (I3 wr (w.heap.size + 1) v0 v1 v2) := hv
      obtain ⟨m, t1, t2, t3, t4, t5⟩ := HM0.out
      have hne : ¬ n0 = 0 := by have := HN.out; omega
      have HN2 := Lib.hid hn
      have HR := Lib.hid hr
      have HBW := Lib.hid hbw
      have x := hn.1
      have y := HV.out.1.1
      have f := HV.out.2.1
      clear hn hv hr hbw
      go_wp2_with fail
      go_region
      all_goals (
        go_wp2_with fail
        go_roundw
        case rel => exact ⟨1, rfl, by omega, (HN2.out.far (by show w.heap.size ≠ w.heap.size + 1; omega) _).bel (Bel.refl _).drew, (HV.out.set0 _).bel (Bel.refl _).drew, (HR.out.far (by show w.heap.size + 1 + 1 ≠ w.heap.size + 1; omega) _).bel (Bel.refl _).drew, (HBW.out.setCell (by show w.heap.size ≤ w.heap.size + 1; omega) _).drew⟩
        case measure => simp [intOf])
    · have HV : Hid (I3 wr (w.heap.size + 1) (v0 % n0) v1 v2) := hv
      obtain ⟨m, t1, t2, t3, t4, t5⟩ := HM1.out
      have hne : ¬ n1 = 0 := by have := HN.out; omega
      have HN2 := Lib.hid hn
      have HR := Lib.hid hr
      have HBW := Lib.hid hbw
      have x := hn.2.1
      have y := HV.out.1.2.1
      have f := HV.out.2.2.1
      clear hn hv hr hbw
      go_wp2_with fail
      go_region
      all_goals (
        go_wp2_with fail
        go_roundw
        case rel => exact ⟨2, rfl, by omega, (HN2.out.far (by show w.heap.size ≠ w.heap.size + 1; omega) _).bel (Bel.refl _).drew, (HV.out.set1 _).bel (Bel.refl _).drew, (HR.out.far (by show w.heap.size + 1 + 1 ≠ w.heap.size + 1; omega) _).bel (Bel.refl _).drew, (HBW.out.setCell (by show w.heap.size ≤ w.heap.size + 1; omega) _).drew⟩
        case measure => simp [intOf])
    · have HV : Hid (I3 wr (w.heap.size + 1) (v0 % n0) (v1 % n1) v2) := hv
      obtain ⟨m, t1, t2, t3, t4, t5⟩ := HM2.out
      have hne : ¬ n2 = 0 := by have := HN.out; omega
      have HN2 := Lib.hid hn
      have HR := Lib.hid hr
      have HBW := Lib.hid hbw
      have x := hn.2.2
      have y := HV.out.1.2.2
      have f := HV.out.2.2.2
      clear hn hv hr hbw
      go_wp2_with fail
      go_region
      all_goals (
        go_wp2_with fail
        go_roundw
        case rel => exact ⟨3, rfl, by omega, (HN2.out.far (by show w.heap.size ≠ w.heap.size + 1; omega) _).bel (Bel.refl _).drew, (HV.out.set2 _).bel (Bel.refl _).drew, (HR.out.far (by show w.heap.size + 1 + 1 ≠ w.heap.size + 1; omega) _).bel (Bel.refl _).drew, (HBW.out.setCell (by show w.heap.size ≤ w.heap.size + 1; omega) _).drew⟩
        case measure => simp [intOf])
    · have HV : Hid (I3 wr (w.heap.size + 1) (v0 % n0) (v1 % n1) (v2 % n2)) := hv
      obtain ⟨x0, x1, x2⟩ := HV.out.1
      obtain ⟨⟨g0, g1, g2⟩, f0, f1, f2⟩ := hr
      have hle : w.heap.size ≤ w.heap.size + 1 + 1 := by omega
      have HBF := Lib.hid (((hbw.setCell (p := ⟨w.heap.size + 1 + 1, 0, none⟩) hle (.int .i64 (v0 % n0))).setCell (p := ⟨w.heap.size + 1 + 1, 1, none⟩) hle (.int .i64 (v1 % n1))).setCell (p := ⟨w.heap.size + 1 + 1, 2, none⟩) hle (.int .i64 (v2 % n2)))
      obtain ⟨r0, r1, r2⟩ := vec_set g0 g1 g2 (.int .i64 (v0 % n0)) (.int .i64 (v1 % n1)) (.int .i64 (v2 % n2))
      clear hn hv hbw
      go_wp2_with fail
      refine bodyPost_ret (v := vecV (v0 % n0) (v1 % n1) (v2 % n2)) (by simp [results, Tryz.results31, go_sem, r0, r1, r2]) rfl ⟨rfl, HBF.out⟩

end Go.Proofs.YtehiabiahipkhaaGreat

namespace Go.Proofs.YtehiabiahipkhaaGreat
open Go.RowKit
set_option linter.unusedVariables false
set_option linter.unusedSimpArgs false

/-- Is it no side? d: it has to divide 192. -/
def badS (d : Bool) (x : Int) : Prop := x < 1 ∨ 192 < x ∨ (d = true ∧ (192 : Int) % x ≠ 0)
/-- What patterson.sides answers. -/
def SideE (d : Bool) (n0 n1 n2 e : Int) : Prop :=
  ((badS d n0 ∨ badS d n1 ∨ badS d n2) ∧ e = 1) ∨ (¬ badS d n0 ∧ ¬ badS d n1 ∧ ¬ badS d n2 ∧ 262144 < n0 * n1 * n2 ∧ e = 2) ∨ (¬ badS d n0 ∧ ¬ badS d n1 ∧ ¬ badS d n2 ∧ n0 * n1 * n2 ≤ 262144 ∧ e = 0)

set_option maxHeartbeats 4000000 in
theorem sides_any (d : Bool) (n0 n1 n2 : Int) (w : World) :
    Calls Tryz.prog 28 #[vecV n0 n1 n2, .bool d] w fun e w' => (∃ z : Int, e = .returned (.int .i64 z) ∧ SideE d n0 n1 n2 z) ∧ Bel w w' := by
  go_enter Tryz.func28, Tryz.ntmps28
  go_wp2_with fail
  have K : Hid ((w.alloc (.cells #[.int .i64 n0, .int .i64 n1, .int .i64 n2] 23)).cell? ⟨w.heap.size, 0, none⟩ = some (.int .i64 n0) ∧ (w.alloc (.cells #[.int .i64 n0, .int .i64 n1, .int .i64 n2] 23)).cell? ⟨w.heap.size, 1, none⟩ = some (.int .i64 n1) ∧ (w.alloc (.cells #[.int .i64 n0, .int .i64 n1, .int .i64 n2] 23)).cell? ⟨w.heap.size, 2, none⟩ = some (.int .i64 n2)) :=
    ⟨cell_new _ _ _ 0, cell_new _ _ _ 1, cell_new _ _ _ 2⟩
  have HB := Lib.hid ((Bel.refl w).alloc (.cells #[.int .i64 n0, .int .i64 n1, .int .i64 n2] 23))
  generalize World.alloc _ _ = W at K HB ⊢
  go_loopw [8] (fun i wr => ∃ j : Nat, i = .int .i64 j ∧ j ≤ 3 ∧ (1 ≤ j → ¬ badS d n0) ∧ (2 ≤ j → ¬ badS d n1) ∧ (3 ≤ j → ¬ badS d n2) ∧ wr = W) (fun i _ => 3 - (intOf i).toNat)
  case atStart => exact ⟨0, rfl, by omega, fun h => by omega, fun h => by omega, fun h => by omega, rfl⟩
  case round =>
    obtain ⟨j, rfl, hj, g0, g1, g2, hwr⟩ := hrel
    subst hwr
    obtain ⟨W, rfl⟩ : ∃ W : World, W = wr := ⟨_, rfl⟩
    have G0 := Lib.hid g0
    have G1 := Lib.hid g1
    have G2 := Lib.hid g2
    clear g0 g1 g2
    rcases (by omega : j = 0 ∨ j = 1 ∨ j = 2 ∨ j = 3) with rfl | rfl | rfl | rfl
    · by_cases c1 : n0 < 1
      · have HC : Hid (badS d n0) := Or.inl c1
        go_wp2_with fail
        go_ret
        exact ⟨⟨1, rfl, Or.inl ⟨Or.inl HC.out, rfl⟩⟩, HB.out⟩
      · by_cases c2 : 192 < n0
        · have HC : Hid (badS d n0) := Or.inr (Or.inl c2)
          go_wp2_with fail
          go_ret
          exact ⟨⟨1, rfl, Or.inl ⟨Or.inl HC.out, rfl⟩⟩, HB.out⟩
        · cases d with
          | false =>
            have HC : Hid (¬ badS false n0) := fun h => by
              rcases h with h | h | ⟨h, _⟩
              · exact c1 h
              · exact c2 h
              · cases h
            go_wp2_with fail
            go_roundw
            case rel => exact ⟨1, rfl, by omega, fun _ => HC.out, fun h => absurd h (by omega), fun h => absurd h (by omega), by first | rfl | trivial⟩
            case measure => simp [intOf]
          | true =>
            obtain ⟨r, hr⟩ : ∃ r, (192 : Int) % n0 = r := ⟨_, rfl⟩
            have t1 : (192 : Int).tmod n0 = r := by rw [Int.tmod_eq_emod_of_nonneg (by omega), hr]
            have hr0 : 0 ≤ r := by rw [← hr]; exact Int.emod_nonneg _ (by omega)
            have hr1 : r < n0 := by rw [← hr]; exact Int.emod_lt_of_pos _ (by omega)
            have t2 : IntKind.i64.wrap r = r := IntWalk.i64_in _ (by omega)
            have z1 : ¬ n0 = 0 := by omega
            by_cases c3 : r = 0
            · have HC : Hid (¬ badS true n0) := fun h => by
                rcases h with h | h | ⟨_, h⟩
                · exact c1 h
                · exact c2 h
                · exact h (hr.trans c3)
              clear hr hr0 hr1
              subst c3
              go_wp2_with fail
              go_roundw
              case rel => exact ⟨1, rfl, by omega, fun _ => HC.out, fun h => absurd h (by omega), fun h => absurd h (by omega), by first | rfl | trivial⟩
              case measure => simp [intOf]
            · have HC : Hid (badS true n0) := Or.inr (Or.inr ⟨rfl, fun h => c3 (hr.symm.trans h)⟩)
              have c4 : (r != 0) = true := by simp [c3]
              have c5 : (r == 0) = false := by simp [c3]
              clear hr hr0 hr1
              go_wp2_with fail
              go_ret
              exact ⟨⟨1, rfl, Or.inl ⟨Or.inl HC.out, rfl⟩⟩, HB.out⟩
    · by_cases c1 : n1 < 1
      · have HC : Hid (badS d n1) := Or.inl c1
        go_wp2_with fail
        go_ret
        exact ⟨⟨1, rfl, Or.inl ⟨Or.inr (Or.inl HC.out), rfl⟩⟩, HB.out⟩
      · by_cases c2 : 192 < n1
        · have HC : Hid (badS d n1) := Or.inr (Or.inl c2)
          go_wp2_with fail
          go_ret
          exact ⟨⟨1, rfl, Or.inl ⟨Or.inr (Or.inl HC.out), rfl⟩⟩, HB.out⟩
        · cases d with
          | false =>
            have HC : Hid (¬ badS false n1) := fun h => by
              rcases h with h | h | ⟨h, _⟩
              · exact c1 h
              · exact c2 h
              · cases h
            go_wp2_with fail
            go_roundw
            case rel => exact ⟨2, rfl, by omega, fun _ => G0.out (by omega), fun _ => HC.out, fun h => absurd h (by omega), by first | rfl | trivial⟩
            case measure => simp [intOf]
          | true =>
            obtain ⟨r, hr⟩ : ∃ r, (192 : Int) % n1 = r := ⟨_, rfl⟩
            have t1 : (192 : Int).tmod n1 = r := by rw [Int.tmod_eq_emod_of_nonneg (by omega), hr]
            have hr0 : 0 ≤ r := by rw [← hr]; exact Int.emod_nonneg _ (by omega)
            have hr1 : r < n1 := by rw [← hr]; exact Int.emod_lt_of_pos _ (by omega)
            have t2 : IntKind.i64.wrap r = r := IntWalk.i64_in _ (by omega)
            have z1 : ¬ n1 = 0 := by omega
            by_cases c3 : r = 0
            · have HC : Hid (¬ badS true n1) := fun h => by
                rcases h with h | h | ⟨_, h⟩
                · exact c1 h
                · exact c2 h
                · exact h (hr.trans c3)
              clear hr hr0 hr1
              subst c3
              go_wp2_with fail
              go_roundw
              case rel => exact ⟨2, rfl, by omega, fun _ => G0.out (by omega), fun _ => HC.out, fun h => absurd h (by omega), by first | rfl | trivial⟩
              case measure => simp [intOf]
            · have HC : Hid (badS true n1) := Or.inr (Or.inr ⟨rfl, fun h => c3 (hr.symm.trans h)⟩)
              have c4 : (r != 0) = true := by simp [c3]
              have c5 : (r == 0) = false := by simp [c3]
              clear hr hr0 hr1
              go_wp2_with fail
              go_ret
              exact ⟨⟨1, rfl, Or.inl ⟨Or.inr (Or.inl HC.out), rfl⟩⟩, HB.out⟩
    · by_cases c1 : n2 < 1
      · have HC : Hid (badS d n2) := Or.inl c1
        go_wp2_with fail
        go_ret
        exact ⟨⟨1, rfl, Or.inl ⟨Or.inr (Or.inr HC.out), rfl⟩⟩, HB.out⟩
      · by_cases c2 : 192 < n2
        · have HC : Hid (badS d n2) := Or.inr (Or.inl c2)
          go_wp2_with fail
          go_ret
          exact ⟨⟨1, rfl, Or.inl ⟨Or.inr (Or.inr HC.out), rfl⟩⟩, HB.out⟩
        · cases d with
          | false =>
            have HC : Hid (¬ badS false n2) := fun h => by
              rcases h with h | h | ⟨h, _⟩
              · exact c1 h
              · exact c2 h
              · cases h
            go_wp2_with fail
            go_roundw
            case rel => exact ⟨3, rfl, by omega, fun _ => G0.out (by omega), fun _ => G1.out (by omega), fun _ => HC.out, by first | rfl | trivial⟩
            case measure => simp [intOf]
          | true =>
            obtain ⟨r, hr⟩ : ∃ r, (192 : Int) % n2 = r := ⟨_, rfl⟩
            have t1 : (192 : Int).tmod n2 = r := by rw [Int.tmod_eq_emod_of_nonneg (by omega), hr]
            have hr0 : 0 ≤ r := by rw [← hr]; exact Int.emod_nonneg _ (by omega)
            have hr1 : r < n2 := by rw [← hr]; exact Int.emod_lt_of_pos _ (by omega)
            have t2 : IntKind.i64.wrap r = r := IntWalk.i64_in _ (by omega)
            have z1 : ¬ n2 = 0 := by omega
            by_cases c3 : r = 0
            · have HC : Hid (¬ badS true n2) := fun h => by
                rcases h with h | h | ⟨_, h⟩
                · exact c1 h
                · exact c2 h
                · exact h (hr.trans c3)
              clear hr hr0 hr1
              subst c3
              go_wp2_with fail
              go_roundw
              case rel => exact ⟨3, rfl, by omega, fun _ => G0.out (by omega), fun _ => G1.out (by omega), fun _ => HC.out, by first | rfl | trivial⟩
              case measure => simp [intOf]
            · have HC : Hid (badS true n2) := Or.inr (Or.inr ⟨rfl, fun h => c3 (hr.symm.trans h)⟩)
              have c4 : (r != 0) = true := by simp [c3]
              have c5 : (r == 0) = false := by simp [c3]
              clear hr hr0 hr1
              go_wp2_with fail
              go_ret
              exact ⟨⟨1, rfl, Or.inl ⟨Or.inr (Or.inr HC.out), rfl⟩⟩, HB.out⟩
    · have b0 := G0.out (by omega)
      have b1 := G1.out (by omega)
      have b2 := G2.out (by omega)
      have s0 : 1 ≤ n0 ∧ n0 ≤ 192 := ⟨Int.not_lt.1 fun h => b0 (Or.inl h), Int.not_lt.1 fun h => b0 (Or.inr (Or.inl h))⟩
      have s1 : 1 ≤ n1 ∧ n1 ≤ 192 := ⟨Int.not_lt.1 fun h => b1 (Or.inl h), Int.not_lt.1 fun h => b1 (Or.inr (Or.inl h))⟩
      have s2 : 1 ≤ n2 ∧ n2 ≤ 192 := ⟨Int.not_lt.1 fun h => b2 (Or.inl h), Int.not_lt.1 fun h => b2 (Or.inr (Or.inl h))⟩
      have p1 : 0 ≤ n0 * n1 := Int.mul_nonneg (by omega) (by omega)
      have p2 : n0 * n1 ≤ 192 * 192 := Int.mul_le_mul s0.2 s1.2 (by omega) (by omega)
      have p3 : 0 ≤ n0 * n1 * n2 := Int.mul_nonneg p1 (by omega)
      have p4 : n0 * n1 * n2 ≤ 192 * 192 * 192 := Int.mul_le_mul p2 s2.2 (by omega) (by omega)
      have q1 : IntKind.i64.wrap (n0 * n1) = n0 * n1 := IntWalk.i64_in _ (by omega)
      have q2 : IntKind.i64.wrap (n0 * n1 * n2) = n0 * n1 * n2 := IntWalk.i64_in _ (by omega)
      obtain ⟨k0, k1, k2⟩ := K.out
      have HN := Lib.hid (And.intro b0 (And.intro b1 b2))
      clear b0 b1 b2 s0 s1 s2 p1 p2 p3 p4
      by_cases c : 262144 < n0 * n1 * n2
      · have HC := Lib.hid c
        go_wp2_with fail
        go_ret
        exact ⟨⟨2, rfl, Or.inr (Or.inl ⟨HN.out.1, HN.out.2.1, HN.out.2.2, HC.out, rfl⟩)⟩, HB.out⟩
      · have HC : Hid (n0 * n1 * n2 ≤ 262144) := Int.not_lt.1 c
        go_wp2_with fail
        go_ret
        exact ⟨⟨0, rfl, Or.inr (Or.inr ⟨HN.out.1, HN.out.2.1, HN.out.2.2, HC.out, rfl⟩)⟩, HB.out⟩

end Go.Proofs.YtehiabiahipkhaaGreat
