/-
  The walk of facetref23.number (printed by gen_pi.py).
  The walk of facetref23.plus.
  The walk of facetlaw23.same.
  Plain: opposite places, and the sums of products of a density with itself moved.
  The walk of patterson.Exact where it refuses, and where the numbers are too great.
-/
import Derived.Test.YtehiabiahipkhaaGreatB1
import Derived.Test.YtehiabiahipkhaaGreatA8
namespace Go.Proofs.YtehiabiahipkhaaGreat
open Go.RowKit
set_option linter.unusedVariables false
set_option linter.unusedSimpArgs false

set_option maxHeartbeats 4000000 in
theorem rnumber_any (n0 n1 n2 : Nat) (v0 v1 v2 : Int) (w : World) (a0 : 1 ≤ n0 ∧ n0 ≤ 192) (a1 : 1 ≤ n1 ∧ n1 ≤ 192) (a2 : 1 ≤ n2 ∧ n2 ≤ 192) (c0 : v0.natAbs ≤ 1000000) (c1 : v1.natAbs ≤ 1000000) (c2 : v2.natAbs ≤ 1000000) :
    Calls Tryz.prog 53 #[vecV n0 n1 n2, vecV v0 v1 v2] w fun e w' => e = .returned (.int .i64 ((v0 % n0 * n1 + v1 % n1) * n2 + v2 % n2)) ∧ Bel w w' := by
  have HM0 := Lib.hid (mod_facts v0 n0 a0.1 a0.2 c0)
  have HM1 := Lib.hid (mod_facts v1 n1 a1.1 a1.2 c1)
  have HM2 := Lib.hid (mod_facts v2 n2 a2.1 a2.2 c2)
  have HN : Hid (1 ≤ n0 ∧ 1 ≤ n1 ∧ 1 ≤ n2) := ⟨a0.1, a1.1, a2.1⟩
  obtain ⟨u0, hu0⟩ : ∃ u : Nat, v0 % n0 = u := ⟨(v0 % n0).toNat, by have := Int.emod_nonneg v0 (show (n0 : Int) ≠ 0 by omega); omega⟩
  obtain ⟨u1, hu1⟩ : ∃ u : Nat, v1 % n1 = u := ⟨(v1 % n1).toNat, by have := Int.emod_nonneg v1 (show (n1 : Int) ≠ 0 by omega); omega⟩
  obtain ⟨u2, hu2⟩ : ∃ u : Nat, v2 % n2 = u := ⟨(v2 % n2).toNat, by have := Int.emod_nonneg v2 (show (n2 : Int) ≠ 0 by omega); omega⟩
  have l0 : u0 < n0 := by have := Int.emod_lt_of_pos v0 (show (0 : Int) < n0 by omega); omega
  have l1 : u1 < n1 := by have := Int.emod_lt_of_pos v1 (show (0 : Int) < n1 by omega); omega
  have l2 : u2 < n2 := by have := Int.emod_lt_of_pos v2 (show (0 : Int) < n2 by omega); omega
  have m1 : u0 * n1 ≤ 192 * 192 := Nat.mul_le_mul (by omega) (by omega)
  have m2 : (u0 * n1 + u1) * n2 ≤ (192 * 192 + 192) * 192 := Nat.mul_le_mul (by omega) (by omega)
  have f1 : IntKind.i64.wrap ((u0 : Int) * n1) = ((u0 * n1 : Nat) : Int) := by rw [← Int.natCast_mul]; exact IntWalk.i64_in _ (by omega)
  have f2 : IntKind.i64.wrap (((u0 * n1 : Nat) : Int) + (u1 : Int)) = ((u0 * n1 + u1 : Nat) : Int) := by rw [← Int.natCast_add]; exact IntWalk.i64_in _ (by omega)
  have f3 : IntKind.i64.wrap (((u0 * n1 + u1 : Nat) : Int) * n2) = (((u0 * n1 + u1) * n2 : Nat) : Int) := by rw [← Int.natCast_mul]; exact IntWalk.i64_in _ (by omega)
  have f4 : IntKind.i64.wrap ((((u0 * n1 + u1) * n2 : Nat) : Int) + (u2 : Int)) = (((u0 * n1 + u1) * n2 + u2 : Nat) : Int) := by rw [← Int.natCast_add]; exact IntWalk.i64_in _ (by omega)
  have f0 : IntKind.i64.wrap (u0 : Int) = (u0 : Int) := IntWalk.i64_in _ (by omega)
  rw [hu0] at HM0
  rw [hu1] at HM1
  rw [hu2] at HM2
  have hres : (v0 % n0 * n1 + v1 % n1) * n2 + v2 % n2 = (((u0 * n1 + u1) * n2 + u2 : Nat) : Int) := by rw [hu0, hu1, hu2]; simp
  rw [hres]
  generalize (u0 * n1 + u1) * n2 + u2 = y4 at *
  generalize (u0 * n1 + u1) * n2 = y3 at *
  generalize u0 * n1 + u1 = y2 at *
  generalize u0 * n1 = y1 at *
  have HF := Lib.hid (And.intro f0 (And.intro f1 (And.intro f2 (And.intro f3 f4))))
  clear a0 a1 a2 c0 c1 c2 hu0 hu1 hu2 l0 l1 l2 m1 m2 hres f0 f1 f2 f3 f4
  go_enter Tryz.func53, Tryz.ntmps53
  go_wp2_with fail
  have K2 : Hid (V3 ((w.alloc (.cells #[.int .i64 n0, .int .i64 n1, .int .i64 n2] 23)).alloc (.cells #[.int .i64 v0, .int .i64 v1, .int .i64 v2] 23)) w.heap.size n0 n1 n2) := (v3_new w n0 n1 n2 _).bel ((Bel.refl _).alloc _)
  have z1 : (w.alloc (.cells #[.int .i64 n0, .int .i64 n1, .int .i64 n2] 23)).heap.size = w.heap.size + 1 := size_alloc' _ _
  have K3 : Hid (I3 ((w.alloc (.cells #[.int .i64 n0, .int .i64 n1, .int .i64 n2] 23)).alloc (.cells #[.int .i64 v0, .int .i64 v1, .int .i64 v2] 23)) (w.heap.size + 1) v0 v1 v2) := by rw [← z1]; exact i3_new _ _ _ _ _
  have HB : Hid (Bel w ((w.alloc (.cells #[.int .i64 n0, .int .i64 n1, .int .i64 n2] 23)).alloc (.cells #[.int .i64 v0, .int .i64 v1, .int .i64 v2] 23))) := ((Bel.refl w).alloc _).alloc _
  clear z1
  generalize World.alloc _ _ = W at K2 K3 HB ⊢
  go_loopw [5, 7] (fun s i wr => ∃ (j t : Nat), i = .int .i64 j ∧ s = .int .i64 t ∧ ((j = 0 ∧ t = 0) ∨ (j = 1 ∧ t = u0) ∨ (j = 2 ∧ t = y2) ∨ (j = 3 ∧ t = y4)) ∧ Bel W wr) (fun _ i _ => 3 - (intOf i).toNat)
  case atStart => exact ⟨0, 0, rfl, rfl, Or.inl ⟨rfl, rfl⟩, Bel.refl W⟩
  case round =>
    obtain ⟨j, t, rfl, rfl, ht, hbw⟩ := hrel
    obtain ⟨f0, f1, f2, f3, f4⟩ := HF.out
    have k2 := K2.out.bel hbw
    have k3 := K3.out.bel hbw
    have HBW := Lib.hid hbw
    clear hbw
    rcases ht with ⟨rfl, rfl⟩ | ⟨rfl, ht⟩ | ⟨rfl, ht⟩ | ⟨rfl, ht⟩
    · have e0 : IntKind.i64.wrap 0 = 0 := by decide
      have e1 : IntKind.i64.wrap (0 + (u0 : Int)) = (u0 : Int) := by rw [Int.zero_add]; exact f0
      obtain ⟨m, t1, t2, t3, t4, t5⟩ := HM0.out
      have hne : ¬ n0 = 0 := by have := HN.out; omega
      have x := k2.1
      have y := k3.1.1
      clear k2 k3
      have HS0 : Hid (wr.cell? ⟨w.heap.size, 0, none⟩ = some (.int .i64 n0) ∧ wr.cell? ⟨w.heap.size + 1, 0, none⟩ = some (.int .i64 v0)) := ⟨x, y⟩
      clear x y
      go_wp2_with fail
      go_region_held3 (fun w' => w'.cell? ⟨w.heap.size, 0, none⟩ = some (.int .i64 n0) ∧ w'.cell? ⟨w.heap.size + 1, 0, none⟩ = some (.int .i64 v0)) (exact HS0.out) (fail)
      go_wp2_with fail
      go_roundw
      case rel => exact ⟨1, _, rfl, rfl, Or.inr (Or.inl ⟨rfl, rfl⟩), HBW.out.drew⟩
      case measure => simp [intOf]
    · have ht2 := ht.symm
      clear ht
      subst ht2
      obtain ⟨m, t1, t2, t3, t4, t5⟩ := HM1.out
      have hne : ¬ n1 = 0 := by have := HN.out; omega
      have x := k2.2.1
      have y := k3.1.2.1
      clear k2 k3
      have HS0 : Hid (wr.cell? ⟨w.heap.size, 1, none⟩ = some (.int .i64 n1) ∧ wr.cell? ⟨w.heap.size + 1, 1, none⟩ = some (.int .i64 v1)) := ⟨x, y⟩
      clear x y
      go_wp2_with fail
      go_region_held3 (fun w' => w'.cell? ⟨w.heap.size, 1, none⟩ = some (.int .i64 n1) ∧ w'.cell? ⟨w.heap.size + 1, 1, none⟩ = some (.int .i64 v1)) (exact HS0.out) (fail)
      go_wp2_with fail
      go_roundw
      case rel => exact ⟨2, _, rfl, rfl, Or.inr (Or.inr (Or.inl ⟨rfl, rfl⟩)), HBW.out.drew⟩
      case measure => simp [intOf]
    · have ht2 := ht.symm
      clear ht
      subst ht2
      obtain ⟨m, t1, t2, t3, t4, t5⟩ := HM2.out
      have hne : ¬ n2 = 0 := by have := HN.out; omega
      have x := k2.2.2
      have y := k3.1.2.2
      clear k2 k3
      have HS0 : Hid (wr.cell? ⟨w.heap.size, 2, none⟩ = some (.int .i64 n2) ∧ wr.cell? ⟨w.heap.size + 1, 2, none⟩ = some (.int .i64 v2)) := ⟨x, y⟩
      clear x y
      go_wp2_with fail
      go_region_held3 (fun w' => w'.cell? ⟨w.heap.size, 2, none⟩ = some (.int .i64 n2) ∧ w'.cell? ⟨w.heap.size + 1, 2, none⟩ = some (.int .i64 v2)) (exact HS0.out) (fail)
      go_wp2_with fail
      go_roundw
      case rel => exact ⟨3, _, rfl, rfl, Or.inr (Or.inr (Or.inr ⟨rfl, rfl⟩)), HBW.out.drew⟩
      case measure => simp [intOf]
    · have ht2 := ht.symm
      clear ht
      subst ht2
      clear k2 k3
      go_wp2_with fail
      go_ret
      exact ⟨rfl, HB.out.trans HBW.out⟩

end Go.Proofs.YtehiabiahipkhaaGreat

namespace Go.Proofs.YtehiabiahipkhaaGreat
open Go.RowKit
set_option linter.unusedVariables false
set_option linter.unusedSimpArgs false

set_option maxHeartbeats 2000000 in
theorem plus_any (p0 p1 p2 q0 q1 q2 : Int) (w : World) (a0 : p0.natAbs ≤ 1000000) (a1 : p1.natAbs ≤ 1000000) (a2 : p2.natAbs ≤ 1000000) (b0 : q0.natAbs ≤ 1000000) (b1 : q1.natAbs ≤ 1000000) (b2 : q2.natAbs ≤ 1000000) :
    Calls Tryz.prog 54 #[vecV p0 p1 p2, vecV q0 q1 q2] w fun e w' => e = .returned (vecV (p0 + q0) (p1 + q1) (p2 + q2)) ∧ Bel w w' := by
  have f0 : IntKind.i64.wrap (p0 + q0) = p0 + q0 := IntWalk.i64_in _ (by omega)
  have f1 : IntKind.i64.wrap (p1 + q1) = p1 + q1 := IntWalk.i64_in _ (by omega)
  have f2 : IntKind.i64.wrap (p2 + q2) = p2 + q2 := IntWalk.i64_in _ (by omega)
  clear a0 a1 a2 b0 b1 b2
  go_enter Tryz.func54, Tryz.ntmps54
  go_wp2_with fail
  have hb := (((Bel.refl w).alloc (.cells #[.int .i64 p0, .int .i64 p1, .int .i64 p2] 23)).alloc (.cells #[.int .i64 q0, .int .i64 q1, .int .i64 q2] 23)).alloc (.cells #[.int .i64 (p0 + q0), .int .i64 (p1 + q1), .int .i64 (p2 + q2)] 23)
  have z : ((w.alloc (.cells #[.int .i64 p0, .int .i64 p1, .int .i64 p2] 23)).alloc (.cells #[.int .i64 q0, .int .i64 q1, .int .i64 q2] 23)).heap.size = w.heap.size + 1 + 1 := by rw [size_alloc', size_alloc']
  have r0 := cell_newN ((w.alloc (.cells #[.int .i64 p0, .int .i64 p1, .int .i64 p2] 23)).alloc (.cells #[.int .i64 q0, .int .i64 q1, .int .i64 q2] 23)) #[.int .i64 (p0 + q0), .int .i64 (p1 + q1), .int .i64 (p2 + q2)] 23 0 _ z
  have r1 := cell_newN ((w.alloc (.cells #[.int .i64 p0, .int .i64 p1, .int .i64 p2] 23)).alloc (.cells #[.int .i64 q0, .int .i64 q1, .int .i64 q2] 23)) #[.int .i64 (p0 + q0), .int .i64 (p1 + q1), .int .i64 (p2 + q2)] 23 1 _ z
  have r2 := cell_newN ((w.alloc (.cells #[.int .i64 p0, .int .i64 p1, .int .i64 p2] 23)).alloc (.cells #[.int .i64 q0, .int .i64 q1, .int .i64 q2] 23)) #[.int .i64 (p0 + q0), .int .i64 (p1 + q1), .int .i64 (p2 + q2)] 23 2 _ z
  refine bodyPost_ret (v := vecV (p0 + q0) (p1 + q1) (p2 + q2)) (by simp [results, Tryz.results54, go_sem, r0, r1, r2]) rfl ⟨rfl, hb⟩

end Go.Proofs.YtehiabiahipkhaaGreat

namespace Go.Proofs.YtehiabiahipkhaaGreat
open Go.RowKit
set_option linter.unusedVariables false
set_option linter.unusedSimpArgs false

set_option maxHeartbeats 2000000 in
theorem same_any (b1 o1 c1 b2 o2 c2 m1 m2 : Nat) (a1 a2 : Option Addr) (p0 p1 p2 q0 q1 q2 : Int) (xs ys : List Int) (w : World) (hl1 : xs.length = m1) (hl2 : ys.length = m2) (hm : m1 ≤ 1000000) (he : p0 = q0 ∧ p1 = q1 ∧ p2 = q2)
    (hx : ∀ i, i < m1 → a1 = some ⟨b1, o1, none⟩ ∧ w.cell? ⟨b1, o1 + i, none⟩ = some (iV (xs.getD i 0))) (hy : ∀ i, i < m2 → a2 = some ⟨b2, o2, none⟩ ∧ w.cell? ⟨b2, o2 + i, none⟩ = some (iV (ys.getD i 0))) :
    Calls Tryz.prog 13 #[countV p0 p1 p2 a1 m1 c1, countV q0 q1 q2 a2 m2 c2] w fun e w' => e = .returned (.bool (decide (xs = ys))) ∧ Bel w w' := by
  obtain ⟨rfl, rfl, rfl⟩ := he
  have HI := Lib.hid (fun (W : World) (h : Bel w W) => ints_any b1 o1 c1 b2 o2 c2 m1 m2 a1 a2 xs ys W hl1 hl2 hm (fun i hi => ⟨(hx i hi).1, h.cellv (hx i hi).2⟩) (fun i hi => ⟨(hy i hi).1, h.cellv (hy i hi).2⟩))
  generalize decide (xs = ys) = r at HI ⊢
  clear hl1 hl2 hm hx hy
  have hb := ((Bel.refl w).alloc (.cells #[.int .i64 p0, .int .i64 p1, .int .i64 p2, .slice a1 m1 c1] 26)).alloc (.cells #[.int .i64 p0, .int .i64 p1, .int .i64 p2, .slice a2 m2 c2] 26)
  have HB := Lib.hid hb
  clear hb
  go_enter Tryz.func13, Tryz.ntmps13
  go_wp2_with fail
  refine (HI.out _ HB.out).mono ?_
  rintro e w1 ⟨rfl, hb1⟩
  have HB1 := Lib.hid (HB.out.trans hb1)
  clear hb1
  go_wp2_with fail
  go_ret
  exact ⟨rfl, HB1.out⟩

end Go.Proofs.YtehiabiahipkhaaGreat

namespace Go.Proofs.YtehiabiahipkhaaGreat
set_option linter.unusedVariables false
set_option linter.unusedSimpArgs false

/-- The number of the opposite place. -/
def oppN (n0 n1 n2 i : Nat) : Nat := ((n0 - i / n2 / n1) % n0 * n1 + (n1 - i / n2 % n1) % n1) * n2 + (n2 - i % n2) % n2
/-- Three sides, as far as places need them. -/
structure P3 (n0 n1 n2 L : Nat) : Prop where
  a : 1 ≤ n0 ∧ n0 ≤ 192
  b : 1 ≤ n1 ∧ n1 ≤ 192
  c : 1 ≤ n2 ∧ n2 ≤ 192
  p : n0 * n1 * n2 = L
  l : L ≤ 262144
theorem S3.p3 {n0 n1 n2 L : Nat} (h : S3 n0 n1 n2 L) : P3 n0 n1 n2 L := ⟨⟨h.a.1, h.a.2.1⟩, ⟨h.b.1, h.b.2.1⟩, ⟨h.c.1, h.c.2.1⟩, h.p, h.l⟩

/-- The parts of a place's number. -/
theorem place_parts {n0 n1 n2 L i : Nat} (h : P3 n0 n1 n2 L) (hi : i < L) : i / n2 / n1 < n0 ∧ i / n2 % n1 < n1 ∧ i % n2 < n2 ∧ (i / n2 / n1 * n1 + i / n2 % n1) * n2 + i % n2 = i := by
  refine ⟨?_, Nat.mod_lt _ h.b.1, Nat.mod_lt _ h.c.1, ?_⟩
  · rw [Nat.div_lt_iff_lt_mul h.b.1, Nat.div_lt_iff_lt_mul h.c.1, h.p]; exact hi
  · rw [Nat.div_add_mod', Nat.div_add_mod']
theorem opp_mod {n x : Nat} (h : x < n) : (n - (n - x) % n) % n = x := by
  by_cases hx : x = 0
  · subst hx; simp
  · rw [Nat.mod_eq_of_lt (show n - x < n by omega), show n - (n - x) = x by omega, Nat.mod_eq_of_lt h]
theorem oppN_lt {n0 n1 n2 L : Nat} (h : P3 n0 n1 n2 L) (i : Nat) : oppN n0 n1 n2 i < L := by
  rw [← h.p]
  exact place3_lt _ _ _ _ _ _ (Nat.mod_lt _ h.a.1) (Nat.mod_lt _ h.b.1) (Nat.mod_lt _ h.c.1)
theorem oppN_parts {n0 n1 n2 L : Nat} (h : P3 n0 n1 n2 L) (i : Nat) : oppN n0 n1 n2 i / n2 / n1 = (n0 - i / n2 / n1) % n0 ∧ oppN n0 n1 n2 i / n2 % n1 = (n1 - i / n2 % n1) % n1 ∧ oppN n0 n1 n2 i % n2 = (n2 - i % n2) % n2 := by
  unfold oppN
  rw [pl_q _ _ _ _ _ (Nat.mod_lt _ h.c.1), pl_z _ _ _ _ _ (Nat.mod_lt _ h.c.1), pl_y _ _ _ (Nat.mod_lt _ h.b.1), pl_x _ _ _ (Nat.mod_lt _ h.b.1)]
  exact ⟨rfl, rfl, rfl⟩
theorem oppN_oppN {n0 n1 n2 L i : Nat} (h : P3 n0 n1 n2 L) (hi : i < L) : oppN n0 n1 n2 (oppN n0 n1 n2 i) = i := by
  obtain ⟨a, b, c⟩ := oppN_parts h i
  obtain ⟨l0, l1, l2, e⟩ := place_parts h hi
  have : oppN n0 n1 n2 (oppN n0 n1 n2 i) = ((n0 - oppN n0 n1 n2 i / n2 / n1) % n0 * n1 + (n1 - oppN n0 n1 n2 i / n2 % n1) % n1) * n2 + (n2 - oppN n0 n1 n2 i % n2) % n2 := rfl
  rw [this, a, b, c, opp_mod l0, opp_mod l1, opp_mod l2]
  exact e

/-- The density at the opposite places, as it is being filled. -/
def oppFill (n0 n1 n2 L : Nat) (cs : List Int) : Nat → List Int
  | 0 => List.replicate L 0
  | k + 1 => (oppFill n0 n1 n2 L cs k).set (oppN n0 n1 n2 k) (cs.getD k 0)
def oppL (n0 n1 n2 L : Nat) (cs : List Int) : List Int := oppFill n0 n1 n2 L cs L
theorem oppFill_length (n0 n1 n2 L : Nat) (cs : List Int) (k : Nat) : (oppFill n0 n1 n2 L cs k).length = L := by
  induction k with
  | zero => simp [oppFill]
  | succ k ih => simp [oppFill, ih]
theorem getD_set_at {α : Type} (l : List α) (i j : Nat) (v d : α) (hi : i < l.length) : (l.set i v).getD j d = if i = j then v else l.getD j d := by
  simp only [List.getD_eq_getElem?_getD, List.getElem?_set]
  by_cases h : i = j
  · subst h; simp [hi]
  · simp [h]
theorem oppFill_get {n0 n1 n2 L : Nat} (h : P3 n0 n1 n2 L) (cs : List Int) (k : Nat) (hk : k ≤ L) (i : Nat) (hi : i < k) : (oppFill n0 n1 n2 L cs k).getD (oppN n0 n1 n2 i) 0 = cs.getD i 0 := by
  induction k with
  | zero => omega
  | succ k ih =>
    show ((oppFill n0 n1 n2 L cs k).set (oppN n0 n1 n2 k) (cs.getD k 0)).getD _ 0 = _
    rw [getD_set_at _ _ _ _ _ (by rw [oppFill_length]; exact oppN_lt h k)]
    by_cases hik : i = k
    · subst hik; rw [if_pos rfl]
    · rw [if_neg, ih (by omega) (by omega)]
      intro e
      have := congrArg (oppN n0 n1 n2) e
      rw [oppN_oppN h (by omega), oppN_oppN h (by omega)] at this
      omega
theorem oppL_length (n0 n1 n2 L : Nat) (cs : List Int) : (oppL n0 n1 n2 L cs).length = L := oppFill_length _ _ _ _ _ _
theorem oppL_get {n0 n1 n2 L : Nat} (h : P3 n0 n1 n2 L) (cs : List Int) (i : Nat) (hi : i < L) : (oppL n0 n1 n2 L cs).getD i 0 = cs.getD (oppN n0 n1 n2 i) 0 := by
  have := oppFill_get h cs L (Nat.le_refl _) (oppN n0 n1 n2 i) (oppN_lt h i)
  rw [oppN_oppN h hi] at this
  exact this
theorem oppL_within {n0 n1 n2 L : Nat} (h : P3 n0 n1 n2 L) (cs : List Int) (hl : cs.length = L) : Within (oppL n0 n1 n2 L cs) ↔ Within cs := by
  constructor
  · intro hw i hi
    have := hw (oppN n0 n1 n2 i) (by rw [oppL_length]; exact oppN_lt h i)
    rw [oppL_get h cs _ (oppN_lt h i), oppN_oppN h (by omega)] at this
    exact this
  · intro hw i hi
    rw [oppL_length] at hi
    rw [oppL_get h cs i hi]
    exact hw _ (by rw [hl]; exact oppN_lt h i)

/-- The number of the place that is moved. -/
def movN (n0 n1 n2 i u : Nat) : Nat := ((i / n2 / n1 + u / n2 / n1) % n0 * n1 + (i / n2 % n1 + u / n2 % n1) % n1) * n2 + (i % n2 + u % n2) % n2
theorem movN_lt {n0 n1 n2 L : Nat} (h : P3 n0 n1 n2 L) (i u : Nat) : movN n0 n1 n2 i u < L := by
  rw [← h.p]
  exact place3_lt _ _ _ _ _ _ (Nat.mod_lt _ h.a.1) (Nat.mod_lt _ h.b.1) (Nat.mod_lt _ h.c.1)
/-- The sums of products of a density with itself moved. -/
def autoS (n0 n1 n2 L : Nat) (cs : List Int) (u : Nat) : Int := isum (fun i => cs.getD i 0 * cs.getD (movN n0 n1 n2 i u) 0) L
def autoL (n0 n1 n2 L : Nat) (cs : List Int) : List Int := (List.range L).map (autoS n0 n1 n2 L cs)
theorem autoL_length (n0 n1 n2 L : Nat) (cs : List Int) : (autoL n0 n1 n2 L cs).length = L := by simp [autoL]
theorem autoL_get (n0 n1 n2 L : Nat) (cs : List Int) (u : Nat) (hu : u < L) : (autoL n0 n1 n2 L cs).getD u 0 = autoS n0 n1 n2 L cs u := by simp [autoL, hu]

theorem isum_front (f : Nat → Int) (n : Nat) : isum f (n + 1) = f 0 + isum (fun k => f (k + 1)) n := by
  induction n with
  | zero => show 0 + f 0 = f 0 + 0; omega
  | succ n ih =>
    show isum f (n + 1) + f (n + 1) = f 0 + (isum (fun k => f (k + 1)) n + f (n + 1))
    rw [ih]; omega
theorem isum_rev (f : Nat → Int) (n : Nat) : isum (fun k => f (n - 1 - k)) n = isum f n := by
  induction n generalizing f with
  | zero => rfl
  | succ n ih =>
    rw [isum_front]
    show f (n + 1 - 1 - 0) + isum (fun k => f (n + 1 - 1 - (k + 1))) n = isum f n + f n
    have e : isum (fun k => f (n + 1 - 1 - (k + 1))) n = isum f n := by
      rw [← ih f]
      exact isum_congr fun k hk => by rw [show n + 1 - 1 - (k + 1) = n - 1 - k by omega]
    rw [e, show n + 1 - 1 - 0 = n by omega]
    omega
theorem isum_opp (f : Nat → Int) (n : Nat) : isum (fun x => f ((n - x) % n)) n = isum f n := by
  cases n with
  | zero => rfl
  | succ k =>
    rw [isum_front, isum_front]
    have e : isum (fun x => f ((k + 1 - (x + 1)) % (k + 1))) k = isum (fun x => f (x + 1)) k := by
      rw [← isum_rev (fun x => f (x + 1)) k]
      exact isum_congr fun x hx => by rw [Nat.mod_eq_of_lt (by omega), show k + 1 - (x + 1) = k - 1 - x + 1 by omega]
    rw [e, Nat.sub_zero, Nat.mod_self]
theorem isum_cat (f : Nat → Int) (a b : Nat) : isum f (a + b) = isum f a + isum (fun k => f (a + k)) b := by
  induction b with
  | zero => show isum f a = isum f a + 0; omega
  | succ b ih => show isum f (a + b) + f (a + b) = isum f a + (isum (fun k => f (a + k)) b + f (a + b)); rw [ih]; omega
theorem isum_flat (g : Nat → Int) (a b : Nat) : isum g (a * b) = isum (fun x => isum (fun y => g (x * b + y)) b) a := by
  induction a with
  | zero => simp [isum]
  | succ a ih =>
    rw [Nat.succ_mul, isum_cat, ih]
    rfl
/-- A sum over all places, side by side. -/
theorem isum_places {n0 n1 n2 L : Nat} (h : P3 n0 n1 n2 L) (g : Nat → Int) : isum g L = isum (fun x => isum (fun y => isum (fun z => g ((x * n1 + y) * n2 + z)) n2) n1) n0 := by
  rw [← h.p, isum_flat, isum_flat]

theorem mov_key (n x v : Nat) (hx : x < n) : (v + n - x) % n = ((n - x) % n + v) % n := by
  have e : v + n - x = n - x + v := by omega
  rw [Nat.mod_add_mod, e]

/-- THE LAW OF Exact: folding with the opposite makes the sums of products with itself moved. -/
theorem fold_auto {n0 n1 n2 L : Nat} (hs : S3 n0 n1 n2 L) (cs : List Int) (hl : cs.length = L) (hw : Within cs) : foldN n0 n1 n2 L (oppL n0 n1 n2 L cs) cs = autoL n0 n1 n2 L cs := by
  have h := hs.p3
  apply List.ext_getElem (by rw [foldN_length, autoL_length])
  intro u hu1 hu2
  rw [foldN_length] at hu1
  obtain ⟨l0, l1, l2, e⟩ := place_parts h hu1
  have k1 := foldN_at hs (oppL n0 n1 n2 L cs) cs (oppL_length _ _ _ _ _) hl ((oppL_within h cs hl).2 hw) hw _ _ _ l0 l1 l2
  unfold atI at k1
  rw [e] at k1
  have k2 := autoL_get n0 n1 n2 L cs u hu1
  rw [List.getD_eq_getElem?_getD, List.getElem?_eq_getElem (by rw [foldN_length]; exact hu1), Option.getD_some] at k1
  rw [List.getD_eq_getElem?_getD, List.getElem?_eq_getElem (by rw [autoL_length]; exact hu1), Option.getD_some] at k2
  rw [k1, k2]
  unfold foldS autoS
  rw [isum_places h]
  rw [← isum_opp (fun x => isum (fun y => isum (fun z => cs.getD ((x * n1 + y) * n2 + z) 0 * cs.getD (movN n0 n1 n2 ((x * n1 + y) * n2 + z) u) 0) n2) n1) n0]
  refine isum_congr fun x hx => ?_
  rw [← isum_opp (fun y => isum (fun z => cs.getD (((n0 - x) % n0 * n1 + y) * n2 + z) 0 * cs.getD (movN n0 n1 n2 (((n0 - x) % n0 * n1 + y) * n2 + z) u) 0) n2) n1]
  refine isum_congr fun y hy => ?_
  rw [← isum_opp (fun z => cs.getD (((n0 - x) % n0 * n1 + (n1 - y) % n1) * n2 + z) 0 * cs.getD (movN n0 n1 n2 (((n0 - x) % n0 * n1 + (n1 - y) % n1) * n2 + z) u) 0) n2]
  refine isum_congr fun z hz => ?_
  have m1 : (n1 - y) % n1 < n1 := Nat.mod_lt _ h.b.1
  have m2 : (n2 - z) % n2 < n2 := Nat.mod_lt _ h.c.1
  have hp := place3_lt _ _ _ _ _ _ hx hy hz
  rw [h.p] at hp
  unfold atI movN
  rw [oppL_get h cs _ hp]
  unfold oppN
  rw [pl_q _ _ _ _ _ hz, pl_z _ _ _ _ _ hz, pl_y _ _ _ hy, pl_x _ _ _ hy, pl_q _ _ _ _ _ m2, pl_z _ _ _ _ _ m2, pl_y _ _ _ m1, pl_x _ _ _ m1]
  rw [mov_key n0 x _ hx, mov_key n1 y _ hy, mov_key n2 z _ hz]

/-- How great the sums can be. -/
theorem auto_part {n0 n1 n2 L : Nat} (h : P3 n0 n1 n2 L) (cs : List Int) (hl : cs.length = L) (hw : Within cs) (u k : Nat) (hk : k ≤ L) :
    (isum (fun i => cs.getD i 0 * cs.getD (movN n0 n1 n2 i u) 0) k).natAbs ≤ 288230376151711744 := by
  have b := isum_abs (fun i => cs.getD i 0 * cs.getD (movN n0 n1 n2 i u) 0) k (1048576 * 1048576) fun i hi => by
    rw [Int.natAbs_mul]
    have h1 := hw i (by omega)
    have h2 := hw (movN n0 n1 n2 i u) (by rw [hl]; exact movN_lt h i u)
    exact Nat.mul_le_mul (by omega) (by omega)
  have := h.l
  have h3 : k * (1048576 * 1048576) ≤ 262144 * (1048576 * 1048576) := Nat.mul_le_mul_right _ (by omega)
  omega

end Go.Proofs.YtehiabiahipkhaaGreat

namespace Go.Proofs.YtehiabiahipkhaaGreat
open Go.RowKit
set_option linter.unusedVariables false
set_option linter.unusedSimpArgs false

theorem SideE.det {d : Bool} {n0 n1 n2 a b : Int} (h : SideE d n0 n1 n2 a) (k : SideE d n0 n1 n2 b) : a = b := by
  rcases h with ⟨h, rfl⟩ | ⟨h0, h1, h2, h, rfl⟩ | ⟨h0, h1, h2, h, rfl⟩ <;> rcases k with ⟨k, rfl⟩ | ⟨k0, k1, k2, k, rfl⟩ | ⟨k0, k1, k2, k, rfl⟩
  · rfl
  · rcases h with h | h | h <;> contradiction
  · rcases h with h | h | h <;> contradiction
  · rcases k with k | k | k <;> contradiction
  · rfl
  · omega
  · rcases k with k | k | k <;> contradiction
  · omega
  · rfl

set_option maxHeartbeats 4000000 in
theorem exact_bad (n0 n1 n2 z : Int) (ao : Option Addr) (m cap : Nat) (w : World) (hz : SideE true n0 n1 n2 z) (h0 : z ≠ 0) :
    Calls Tryz.prog 11 #[countV n0 n1 n2 ao m cap] w fun e w' => e = .returned (.tuple #[countV 0 0 0 none 0 0, .int .i64 z]) ∧ Bel w w' := by
  have c1 : (z != 0) = true := by simp [h0]
  have c2 : (z == 0) = false := by simp [h0]
  have HZ := Lib.hid hz
  clear hz h0
  go_enter Tryz.func11, Tryz.ntmps11
  go_wp2_with fail
  have HB : Hid (Bel w ((w.alloc (.cells #[.int .i64 n0, .int .i64 n1, .int .i64 n2, .slice ao m cap] 26)).alloc (.cells #[.int .i64 0, .int .i64 0, .int .i64 0, .slice none 0 0] 26))) := ((Bel.refl w).alloc _).alloc _
  have z1 : (w.alloc (.cells #[.int .i64 n0, .int .i64 n1, .int .i64 n2, .slice ao m cap] 26)).heap.size = w.heap.size + 1 := size_alloc' _ _
  have K4 : Hid (R4 ((w.alloc (.cells #[.int .i64 n0, .int .i64 n1, .int .i64 n2, .slice ao m cap] 26)).alloc (.cells #[.int .i64 0, .int .i64 0, .int .i64 0, .slice none 0 0] 26)) (w.heap.size + 1)) := by
    rw [← z1]; exact r4_new _ _ _ _ _ _
  clear z1
  generalize World.alloc _ _ = W at HB K4 ⊢
  refine (sides_any true n0 n1 n2 _).mono ?_
  rintro e w1 ⟨⟨z1, rfl, hz1⟩, hb1⟩
  obtain rfl := HZ.out.det hz1
  have hr := K4.out.bel hb1
  have HSET : Hid (Bel w ((((w1.setCell ⟨w.heap.size + 1, 0, none⟩ (.int .i64 0)).setCell ⟨w.heap.size + 1, 1, none⟩ (.int .i64 0)).setCell ⟨w.heap.size + 1, 2, none⟩ (.int .i64 0)).setCell ⟨w.heap.size + 1, 3, none⟩ (.slice none 0 0))) :=
    ((((HB.out.trans hb1).setCell (by show w.heap.size ≤ w.heap.size + 1; omega) _).setCell (by show w.heap.size ≤ w.heap.size + 1; omega) _).setCell (by show w.heap.size ≤ w.heap.size + 1; omega) _).setCell (by show w.heap.size ≤ w.heap.size + 1; omega) _
  obtain ⟨r0, r1, r2, r3⟩ := cvar_set hr 0 0 0 none 0 0
  obtain ⟨g0, f0⟩ := hr 0 (by omega)
  obtain ⟨g1, f1⟩ := hr 1 (by omega)
  obtain ⟨g2, f2⟩ := hr 2 (by omega)
  obtain ⟨g3, f3⟩ := hr 3 (by omega)
  clear hr hb1 hz1
  go_wp2_with fail
  refine bodyPost_ret (v := .tuple #[countV 0 0 0 none 0 0, .int .i64 z]) (by simp [results, Tryz.results11, go_sem, r0, r1, r2, r3]) rfl ⟨rfl, HSET.out⟩

set_option maxHeartbeats 4000000 in
theorem exact_form (n0 n1 n2 : Int) (ao : Option Addr) (m cap : Nat) (w : World) (hz : SideE true n0 n1 n2 0) (hm : (m : Int) ≠ n0 * n1 * n2) :
    Calls Tryz.prog 11 #[countV n0 n1 n2 ao m cap] w fun e w' => e = .returned (.tuple #[countV 0 0 0 none 0 0, .int .i64 3]) ∧ Bel w w' := by
  obtain ⟨s0, s1, s2, sp⟩ : (1 ≤ n0 ∧ n0 ≤ 192) ∧ (1 ≤ n1 ∧ n1 ≤ 192) ∧ (1 ≤ n2 ∧ n2 ≤ 192) ∧ n0 * n1 * n2 ≤ 262144 := by
    rcases hz with ⟨h, h0⟩ | ⟨_, _, _, _, h0⟩ | ⟨h0, h1, h2, h, _⟩
    · omega
    · omega
    · exact ⟨badS_side h0, badS_side h1, badS_side h2, h⟩
  have p1 : 0 ≤ n0 * n1 := Int.mul_nonneg (by omega) (by omega)
  have p2 : n0 * n1 ≤ 192 * 192 := Int.mul_le_mul s0.2 s1.2 (by omega) (by omega)
  have p3 : 0 ≤ n0 * n1 * n2 := Int.mul_nonneg p1 (by omega)
  have q1 : IntKind.i64.wrap (n0 * n1) = n0 * n1 := IntWalk.i64_in _ (by omega)
  have q2 : IntKind.i64.wrap (n0 * n1 * n2) = n0 * n1 * n2 := IntWalk.i64_in _ (by omega)
  have c1 : ((m : Int) != n0 * n1 * n2) = true := by simp [hm]
  have HQ := Lib.hid (And.intro q1 (And.intro q2 c1))
  have HZ := Lib.hid hz
  clear hz s0 s1 s2 sp p1 p2 p3 q1 q2 c1 hm
  go_enter Tryz.func11, Tryz.ntmps11
  go_wp2_with fail
  have HB : Hid (Bel w ((w.alloc (.cells #[.int .i64 n0, .int .i64 n1, .int .i64 n2, .slice ao m cap] 26)).alloc (.cells #[.int .i64 0, .int .i64 0, .int .i64 0, .slice none 0 0] 26))) := ((Bel.refl w).alloc _).alloc _
  have z1 : (w.alloc (.cells #[.int .i64 n0, .int .i64 n1, .int .i64 n2, .slice ao m cap] 26)).heap.size = w.heap.size + 1 := size_alloc' _ _
  have K4 : Hid (R4 ((w.alloc (.cells #[.int .i64 n0, .int .i64 n1, .int .i64 n2, .slice ao m cap] 26)).alloc (.cells #[.int .i64 0, .int .i64 0, .int .i64 0, .slice none 0 0] 26)) (w.heap.size + 1)) := by
    rw [← z1]; exact r4_new _ _ _ _ _ _
  have K1 : Hid (CVar ((w.alloc (.cells #[.int .i64 n0, .int .i64 n1, .int .i64 n2, .slice ao m cap] 26)).alloc (.cells #[.int .i64 0, .int .i64 0, .int .i64 0, .slice none 0 0] 26)) w.heap.size n0 n1 n2 ao m cap) := (cvar_new w _ _ _ _ _ _ _).bel ((Bel.refl _).alloc _)
  clear z1
  generalize World.alloc _ _ = W at HB K4 K1 ⊢
  refine (sides_any true n0 n1 n2 _).mono ?_
  rintro e w1 ⟨⟨z1, rfl, hz1⟩, hb1⟩
  obtain rfl := HZ.out.det hz1
  have hr := K4.out.bel hb1
  have HSET : Hid (Bel w ((((w1.setCell ⟨w.heap.size + 1, 0, none⟩ (.int .i64 0)).setCell ⟨w.heap.size + 1, 1, none⟩ (.int .i64 0)).setCell ⟨w.heap.size + 1, 2, none⟩ (.int .i64 0)).setCell ⟨w.heap.size + 1, 3, none⟩ (.slice none 0 0))) :=
    ((((HB.out.trans hb1).setCell (by show w.heap.size ≤ w.heap.size + 1; omega) _).setCell (by show w.heap.size ≤ w.heap.size + 1; omega) _).setCell (by show w.heap.size ≤ w.heap.size + 1; omega) _).setCell (by show w.heap.size ≤ w.heap.size + 1; omega) _
  obtain ⟨r0, r1, r2, r3⟩ := cvar_set hr 0 0 0 none 0 0
  obtain ⟨g0, f0⟩ := hr 0 (by omega)
  obtain ⟨g1, f1⟩ := hr 1 (by omega)
  obtain ⟨g2, f2⟩ := hr 2 (by omega)
  obtain ⟨g3, f3⟩ := hr 3 (by omega)
  obtain ⟨x0, x1, x2, x3⟩ := K1.out.bel hb1
  obtain ⟨q1, q2, c1⟩ := HQ.out
  clear hr hb1 hz1
  go_wp2_with fail
  refine bodyPost_ret (v := .tuple #[countV 0 0 0 none 0 0, .int .i64 3]) (by simp [results, Tryz.results11, go_sem, r0, r1, r2, r3]) rfl ⟨rfl, HSET.out⟩

end Go.Proofs.YtehiabiahipkhaaGreat
