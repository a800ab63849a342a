/-
  The walk of facetref20.Sides (printed by gen_pd.py).
  The walk of facetref20.Grid.
  The walks of facetlaw23.few and facetref23.at.
  The walks of facetref23.plus and facetlaw23.ints.
  The walk of facetref23.Counts.
-/
import Derived.Test.YtehiabiahipkhaaGreatA9
namespace Go.Proofs.YtehiabiahipkhaaGreat
open Go.RowKit
set_option linter.unusedVariables false
set_option linter.unusedSimpArgs false

theorem badS_side {d : Bool} {x : Int} (b : ¬ badS d x) : 1 ≤ x ∧ x ≤ 192 := ⟨Int.not_lt.1 fun h => b (Or.inl h), Int.not_lt.1 fun h => b (Or.inr (Or.inl h))⟩

set_option maxHeartbeats 4000000 in
theorem rsides_any (d : Bool) (n0 n1 n2 : Int) (w : World) :
    Calls Tryz.prog 59 #[vecV n0 n1 n2, .bool d] w fun e w' => (∃ z : Int, e = .returned (.int .i64 z) ∧ SideE d n0 n1 n2 z) ∧ Bel w w' := by
  go_enter Tryz.func59, Tryz.ntmps59
  go_wp2_with fail
  have K : Hid ((w.alloc (.cells #[.int .i64 n0, .int .i64 n1, .int .i64 n2] 23)).cell? ⟨w.heap.size, 0, none⟩ = some (.int .i64 n0) ∧ (w.alloc (.cells #[.int .i64 n0, .int .i64 n1, .int .i64 n2] 23)).cell? ⟨w.heap.size, 1, none⟩ = some (.int .i64 n1) ∧ (w.alloc (.cells #[.int .i64 n0, .int .i64 n1, .int .i64 n2] 23)).cell? ⟨w.heap.size, 2, none⟩ = some (.int .i64 n2)) :=
    ⟨cell_new _ _ _ 0, cell_new _ _ _ 1, cell_new _ _ _ 2⟩
  have HB := Lib.hid ((Bel.refl w).alloc (.cells #[.int .i64 n0, .int .i64 n1, .int .i64 n2] 23))
  generalize World.alloc _ _ = W at K HB ⊢
  go_loopw [5, 9] (fun s i wr => ∃ (j : Nat) (t : Int), i = .int .i64 j ∧ s = .int .i64 t ∧ j ≤ 3 ∧ ((j = 0 ∧ t = 1) ∨ (j = 1 ∧ t = n0) ∨ (j = 2 ∧ t = n0 * n1) ∨ (j = 3 ∧ t = n0 * n1 * n2)) ∧ (1 ≤ j → ¬ badS d n0) ∧ (2 ≤ j → ¬ badS d n1) ∧ (3 ≤ j → ¬ badS d n2) ∧ wr = W) (fun _ i _ => 3 - (intOf i).toNat)
  case atStart => exact ⟨0, 1, rfl, rfl, by omega, Or.inl ⟨rfl, rfl⟩, fun h => by omega, fun h => by omega, fun h => by omega, rfl⟩
  case round =>
    obtain ⟨j, t, rfl, rfl, hj, ht, g0, g1, g2, hwr⟩ := hrel
    subst hwr
    obtain ⟨W, rfl⟩ : ∃ W : World, W = wr := ⟨_, rfl⟩
    have G0 := Lib.hid g0
    have G1 := Lib.hid g1
    have G2 := Lib.hid g2
    clear g0 g1 g2
    rcases ht with ⟨rfl, ht⟩ | ⟨rfl, ht⟩ | ⟨rfl, ht⟩ | ⟨rfl, ht⟩
    · have ht2 := ht.symm
      clear ht
      subst ht2
      by_cases c1 : n0 < 1
      · have HC : Hid (badS d n0) := Or.inl c1
        go_wp2_with fail
        go_ret
        exact ⟨⟨1, rfl, Or.inl ⟨Or.inl HC.out, rfl⟩⟩, HB.out⟩
      · by_cases c2 : 192 < n0
        · have HC : Hid (badS d n0) := Or.inr (Or.inl c2)
          go_wp2_with fail
          go_ret
          exact ⟨⟨1, rfl, Or.inl ⟨Or.inl HC.out, rfl⟩⟩, HB.out⟩
        · have q1 : IntKind.i64.wrap n0 = n0 := IntWalk.i64_in _ (by omega)
          cases d with
          | false =>
            have HC : Hid (¬ badS false n0) := fun h => by
              rcases h with h | h | ⟨h, _⟩
              · exact c1 h
              · exact c2 h
              · cases h
            go_wp2_with fail
            go_roundw
            case rel => exact ⟨1, _, rfl, rfl, by omega, Or.inr (Or.inl ⟨rfl, rfl⟩), fun _ => HC.out, fun h => absurd h (by omega), fun h => absurd h (by omega), by first | rfl | trivial⟩
            case measure => simp [intOf]
          | true =>
            obtain ⟨r, hr⟩ : ∃ r, (192 : Int) % n0 = r := ⟨_, rfl⟩
            have t1 : (192 : Int).tmod n0 = r := by rw [Int.tmod_eq_emod_of_nonneg (by omega), hr]
            have hr0 : 0 ≤ r := by rw [← hr]; exact Int.emod_nonneg _ (by omega)
            have hr1 : r < n0 := by rw [← hr]; exact Int.emod_lt_of_pos _ (by omega)
            have t2 : IntKind.i64.wrap r = r := IntWalk.i64_in _ (by omega)
            have z1 : ¬ n0 = 0 := by omega
            by_cases c3 : r = 0
            · have HC : Hid (¬ badS true n0) := fun h => by
                rcases h with h | h | ⟨_, h⟩
                · exact c1 h
                · exact c2 h
                · exact h (hr.trans c3)
              clear hr hr0 hr1
              subst c3
              go_wp2_with fail
              go_roundw
              case rel => exact ⟨1, _, rfl, rfl, by omega, Or.inr (Or.inl ⟨rfl, rfl⟩), fun _ => HC.out, fun h => absurd h (by omega), fun h => absurd h (by omega), by first | rfl | trivial⟩
              case measure => simp [intOf]
            · have HC : Hid (badS true n0) := Or.inr (Or.inr ⟨rfl, fun h => c3 (hr.symm.trans h)⟩)
              have c4 : (r != 0) = true := by simp [c3]
              have c5 : (r == 0) = false := by simp [c3]
              clear hr hr0 hr1
              go_wp2_with fail
              go_ret
              exact ⟨⟨1, rfl, Or.inl ⟨Or.inl HC.out, rfl⟩⟩, HB.out⟩
    · have ht2 := ht.symm
      clear ht
      subst ht2
      have s0 := badS_side (G0.out (by omega))
      by_cases c1 : n1 < 1
      · have HC : Hid (badS d n1) := Or.inl c1
        go_wp2_with fail
        go_ret
        exact ⟨⟨1, rfl, Or.inl ⟨Or.inr (Or.inl HC.out), rfl⟩⟩, HB.out⟩
      · by_cases c2 : 192 < n1
        · have HC : Hid (badS d n1) := Or.inr (Or.inl c2)
          go_wp2_with fail
          go_ret
          exact ⟨⟨1, rfl, Or.inl ⟨Or.inr (Or.inl HC.out), rfl⟩⟩, HB.out⟩
        · have p1 : 0 ≤ n0 * n1 := Int.mul_nonneg (by omega) (by omega)
          have p2 : n0 * n1 ≤ 192 * 192 := Int.mul_le_mul s0.2 (Int.not_lt.1 c2) (by omega) (by omega)
          have q1 : IntKind.i64.wrap (n0 * n1) = n0 * n1 := IntWalk.i64_in _ (by omega)
          clear p1 p2 s0
          cases d with
          | false =>
            have HC : Hid (¬ badS false n1) := fun h => by
              rcases h with h | h | ⟨h, _⟩
              · exact c1 h
              · exact c2 h
              · cases h
            go_wp2_with fail
            go_roundw
            case rel => exact ⟨2, _, rfl, rfl, by omega, Or.inr (Or.inr (Or.inl ⟨rfl, rfl⟩)), fun _ => G0.out (by omega), fun _ => HC.out, fun h => absurd h (by omega), by first | rfl | trivial⟩
            case measure => simp [intOf]
          | true =>
            obtain ⟨r, hr⟩ : ∃ r, (192 : Int) % n1 = r := ⟨_, rfl⟩
            have t1 : (192 : Int).tmod n1 = r := by rw [Int.tmod_eq_emod_of_nonneg (by omega), hr]
            have hr0 : 0 ≤ r := by rw [← hr]; exact Int.emod_nonneg _ (by omega)
            have hr1 : r < n1 := by rw [← hr]; exact Int.emod_lt_of_pos _ (by omega)
            have t2 : IntKind.i64.wrap r = r := IntWalk.i64_in _ (by omega)
            have z1 : ¬ n1 = 0 := by omega
            by_cases c3 : r = 0
            · have HC : Hid (¬ badS true n1) := fun h => by
                rcases h with h | h | ⟨_, h⟩
                · exact c1 h
                · exact c2 h
                · exact h (hr.trans c3)
              clear hr hr0 hr1
              subst c3
              go_wp2_with fail
              go_roundw
              case rel => exact ⟨2, _, rfl, rfl, by omega, Or.inr (Or.inr (Or.inl ⟨rfl, rfl⟩)), fun _ => G0.out (by omega), fun _ => HC.out, fun h => absurd h (by omega), by first | rfl | trivial⟩
              case measure => simp [intOf]
            · have HC : Hid (badS true n1) := Or.inr (Or.inr ⟨rfl, fun h => c3 (hr.symm.trans h)⟩)
              have c4 : (r != 0) = true := by simp [c3]
              have c5 : (r == 0) = false := by simp [c3]
              clear hr hr0 hr1
              go_wp2_with fail
              go_ret
              exact ⟨⟨1, rfl, Or.inl ⟨Or.inr (Or.inl HC.out), rfl⟩⟩, HB.out⟩
    · have ht2 := ht.symm
      clear ht
      subst ht2
      have s0 := badS_side (G0.out (by omega))
      have s1 := badS_side (G1.out (by omega))
      by_cases c1 : n2 < 1
      · have HC : Hid (badS d n2) := Or.inl c1
        go_wp2_with fail
        go_ret
        exact ⟨⟨1, rfl, Or.inl ⟨Or.inr (Or.inr HC.out), rfl⟩⟩, HB.out⟩
      · by_cases c2 : 192 < n2
        · have HC : Hid (badS d n2) := Or.inr (Or.inl c2)
          go_wp2_with fail
          go_ret
          exact ⟨⟨1, rfl, Or.inl ⟨Or.inr (Or.inr HC.out), rfl⟩⟩, HB.out⟩
        · have p1 : 0 ≤ n0 * n1 := Int.mul_nonneg (by omega) (by omega)
          have p2 : n0 * n1 ≤ 192 * 192 := Int.mul_le_mul s0.2 s1.2 (by omega) (by omega)
          have p3 : 0 ≤ n0 * n1 * n2 := Int.mul_nonneg p1 (by omega)
          have p4 : n0 * n1 * n2 ≤ 192 * 192 * 192 := Int.mul_le_mul p2 (Int.not_lt.1 c2) (by omega) (by omega)
          have q1 : IntKind.i64.wrap (n0 * n1 * n2) = n0 * n1 * n2 := IntWalk.i64_in _ (by omega)
          clear p1 p2 p3 p4 s0 s1
          cases d with
          | false =>
            have HC : Hid (¬ badS false n2) := fun h => by
              rcases h with h | h | ⟨h, _⟩
              · exact c1 h
              · exact c2 h
              · cases h
            go_wp2_with fail
            go_roundw
            case rel => exact ⟨3, _, rfl, rfl, by omega, Or.inr (Or.inr (Or.inr ⟨rfl, rfl⟩)), fun _ => G0.out (by omega), fun _ => G1.out (by omega), fun _ => HC.out, by first | rfl | trivial⟩
            case measure => simp [intOf]
          | true =>
            obtain ⟨r, hr⟩ : ∃ r, (192 : Int) % n2 = r := ⟨_, rfl⟩
            have t1 : (192 : Int).tmod n2 = r := by rw [Int.tmod_eq_emod_of_nonneg (by omega), hr]
            have hr0 : 0 ≤ r := by rw [← hr]; exact Int.emod_nonneg _ (by omega)
            have hr1 : r < n2 := by rw [← hr]; exact Int.emod_lt_of_pos _ (by omega)
            have t2 : IntKind.i64.wrap r = r := IntWalk.i64_in _ (by omega)
            have z1 : ¬ n2 = 0 := by omega
            by_cases c3 : r = 0
            · have HC : Hid (¬ badS true n2) := fun h => by
                rcases h with h | h | ⟨_, h⟩
                · exact c1 h
                · exact c2 h
                · exact h (hr.trans c3)
              clear hr hr0 hr1
              subst c3
              go_wp2_with fail
              go_roundw
              case rel => exact ⟨3, _, rfl, rfl, by omega, Or.inr (Or.inr (Or.inr ⟨rfl, rfl⟩)), fun _ => G0.out (by omega), fun _ => G1.out (by omega), fun _ => HC.out, by first | rfl | trivial⟩
              case measure => simp [intOf]
            · have HC : Hid (badS true n2) := Or.inr (Or.inr ⟨rfl, fun h => c3 (hr.symm.trans h)⟩)
              have c4 : (r != 0) = true := by simp [c3]
              have c5 : (r == 0) = false := by simp [c3]
              clear hr hr0 hr1
              go_wp2_with fail
              go_ret
              exact ⟨⟨1, rfl, Or.inl ⟨Or.inr (Or.inr HC.out), rfl⟩⟩, HB.out⟩
    · have ht2 := ht.symm
      clear ht
      subst ht2
      have b0 := G0.out (by omega)
      have b1 := G1.out (by omega)
      have b2 := G2.out (by omega)
      have HN := Lib.hid (And.intro b0 (And.intro b1 b2))
      clear b0 b1 b2
      by_cases c : 262144 < n0 * n1 * n2
      · have HC := Lib.hid c
        go_wp2_with fail
        go_ret
        exact ⟨⟨2, rfl, Or.inr (Or.inl ⟨HN.out.1, HN.out.2.1, HN.out.2.2, HC.out, rfl⟩)⟩, HB.out⟩
      · have HC : Hid (n0 * n1 * n2 ≤ 262144) := Int.not_lt.1 c
        go_wp2_with fail
        go_ret
        exact ⟨⟨0, rfl, Or.inr (Or.inr ⟨HN.out.1, HN.out.2.1, HN.out.2.2, HC.out, rfl⟩)⟩, HB.out⟩

end Go.Proofs.YtehiabiahipkhaaGreat

namespace Go.Proofs.YtehiabiahipkhaaGreat
open Go.RowKit
set_option linter.unusedVariables false
set_option linter.unusedSimpArgs false

/-- What facetref20.Grid answers. -/
def GridE (d : Bool) (n0 n1 n2 m e : Int) : Prop :=
  ((badS d n0 ∨ badS d n1 ∨ badS d n2) ∧ e = 1) ∨ ((¬ badS d n0 ∧ ¬ badS d n1 ∧ ¬ badS d n2) ∧ ((262144 < n0 * n1 * n2 ∧ e = 2) ∨ (n0 * n1 * n2 ≤ 262144 ∧ m ≠ n0 * n1 * n2 ∧ e = 3) ∨ (n0 * n1 * n2 ≤ 262144 ∧ m = n0 * n1 * n2 ∧ e = 0)))

theorem badS_more {x : Int} (h : badS false x) (d : Bool) : badS d x := by
  rcases h with h | h | ⟨h, _⟩
  · exact Or.inl h
  · exact Or.inr (Or.inl h)
  · cases h
theorem badS_any {n0 n1 n2 : Int} (h : badS false n0 ∨ badS false n1 ∨ badS false n2) (d : Bool) : badS d n0 ∨ badS d n1 ∨ badS d n2 := by
  rcases h with h | h | h
  · exact Or.inl (badS_more h d)
  · exact Or.inr (Or.inl (badS_more h d))
  · exact Or.inr (Or.inr (badS_more h d))

set_option maxHeartbeats 4000000 in
theorem grid_any (d : Bool) (n0 n1 n2 m : Int) (w : World) :
    Calls Tryz.prog 38 #[vecV n0 n1 n2, .int .i64 m, .bool d] w fun e w' => (∃ z : Int, e = .returned (.int .i64 z) ∧ GridE d n0 n1 n2 m z) ∧ Bel w w' := by
  go_enter Tryz.func38, Tryz.ntmps38
  go_wp2_with fail
  have K : Hid ((w.alloc (.cells #[.int .i64 n0, .int .i64 n1, .int .i64 n2] 23)).cell? ⟨w.heap.size, 0, none⟩ = some (.int .i64 n0) ∧ (w.alloc (.cells #[.int .i64 n0, .int .i64 n1, .int .i64 n2] 23)).cell? ⟨w.heap.size, 1, none⟩ = some (.int .i64 n1) ∧ (w.alloc (.cells #[.int .i64 n0, .int .i64 n1, .int .i64 n2] 23)).cell? ⟨w.heap.size, 2, none⟩ = some (.int .i64 n2)) :=
    ⟨cell_new _ _ _ 0, cell_new _ _ _ 1, cell_new _ _ _ 2⟩
  have HB := Lib.hid ((Bel.refl w).alloc (.cells #[.int .i64 n0, .int .i64 n1, .int .i64 n2] 23))
  generalize World.alloc _ _ = W at K HB ⊢
  refine (rsides_any false n0 n1 n2 _).mono ?_
  rintro e w1 ⟨⟨z1, rfl, hz1⟩, hb1⟩
  have K1 : Hid (w1.cell? ⟨w.heap.size, 0, none⟩ = some (.int .i64 n0) ∧ w1.cell? ⟨w.heap.size, 1, none⟩ = some (.int .i64 n1) ∧ w1.cell? ⟨w.heap.size, 2, none⟩ = some (.int .i64 n2)) := ⟨hb1.cellv K.out.1, hb1.cellv K.out.2.1, hb1.cellv K.out.2.2⟩
  have HB1 := Lib.hid (HB.out.trans hb1)
  have HZ1 := Lib.hid hz1
  clear hb1 hz1 K HB
  -- the second asking, where it is asked
  have key : ∀ (W2 : World) (x0 : W2.cell? ⟨w.heap.size, 0, none⟩ = some (.int .i64 n0)) (x1 : W2.cell? ⟨w.heap.size, 1, none⟩ = some (.int .i64 n1)) (x2 : W2.cell? ⟨w.heap.size, 2, none⟩ = some (.int .i64 n2)), True := fun _ _ _ _ => trivial
  clear key
  cases d with
  | false =>
    obtain ⟨x0, x1, x2⟩ := K1.out
    rcases HZ1.out with ⟨hbad, rfl⟩ | ⟨g0, g1, g2, hp, rfl⟩ | ⟨g0, g1, g2, hp, rfl⟩
    · go_wp2_with fail
      go_ret
      exact ⟨⟨1, rfl, Or.inl ⟨hbad, rfl⟩⟩, HB1.out⟩
    · have HP := Lib.hid hp
      clear hp
      go_wp2_with fail
      go_ret
      exact ⟨⟨2, rfl, Or.inr ⟨⟨g0, g1, g2⟩, Or.inl ⟨HP.out, rfl⟩⟩⟩, HB1.out⟩
    · have s0 := badS_side g0
      have s1 := badS_side g1
      have s2 := badS_side g2
      have p1 : 0 ≤ n0 * n1 := Int.mul_nonneg (by omega) (by omega)
      have p2 : n0 * n1 ≤ 192 * 192 := Int.mul_le_mul s0.2 s1.2 (by omega) (by omega)
      have p3 : 0 ≤ n0 * n1 * n2 := Int.mul_nonneg p1 (by omega)
      have q1 : IntKind.i64.wrap (n0 * n1) = n0 * n1 := IntWalk.i64_in _ (by omega)
      have q2 : IntKind.i64.wrap (n0 * n1 * n2) = n0 * n1 * n2 := IntWalk.i64_in _ (by omega)
      have HP := Lib.hid hp
      clear s0 s1 s2 p1 p2 p3 hp
      by_cases c : m = n0 * n1 * n2
      · have HC := Lib.hid c
        have c1 : (m != n0 * n1 * n2) = false := by simp [c]
        go_wp2_with fail
        go_ret
        exact ⟨⟨0, rfl, Or.inr ⟨⟨g0, g1, g2⟩, Or.inr (Or.inr ⟨HP.out, HC.out, rfl⟩)⟩⟩, HB1.out⟩
      · have HC := Lib.hid c
        have c1 : (m != n0 * n1 * n2) = true := by simp [c]
        go_wp2_with fail
        go_ret
        exact ⟨⟨3, rfl, Or.inr ⟨⟨g0, g1, g2⟩, Or.inr (Or.inl ⟨HP.out, HC.out, rfl⟩)⟩⟩, HB1.out⟩
  | true =>
    obtain ⟨x0, x1, x2⟩ := K1.out
    go_wp2_with fail
    clear x0 x1 x2
    refine (rsides_any true n0 n1 n2 _).mono ?_
    rintro e w2 ⟨⟨z2, rfl, hz2⟩, hb2⟩
    have x0 := hb2.cellv K1.out.1
    have x1 := hb2.cellv K1.out.2.1
    have x2 := hb2.cellv K1.out.2.2
    have HB2 := Lib.hid (HB1.out.trans hb2)
    clear hb2 K1 HB1
    rcases hz2 with ⟨hbad, rfl⟩ | ⟨g0, g1, g2, hp, rfl⟩ | ⟨g0, g1, g2, hp, rfl⟩
    · go_wp2_with fail
      go_ret
      exact ⟨⟨1, rfl, Or.inl ⟨hbad, rfl⟩⟩, HB2.out⟩
    · have hz : z1 = 2 := by
        rcases HZ1.out with ⟨hbad, _⟩ | ⟨_, _, _, _, e⟩ | ⟨_, _, _, h, _⟩
        · rcases badS_any hbad true with h | h | h
          · exact absurd h g0
          · exact absurd h g1
          · exact absurd h g2
        · exact e
        · omega
      subst hz
      have HP := Lib.hid hp
      clear hp
      go_wp2_with fail
      go_ret
      exact ⟨⟨2, rfl, Or.inr ⟨⟨g0, g1, g2⟩, Or.inl ⟨HP.out, rfl⟩⟩⟩, HB2.out⟩
    · have hz : z1 = 0 := by
        rcases HZ1.out with ⟨hbad, _⟩ | ⟨_, _, _, h, _⟩ | ⟨_, _, _, _, e⟩
        · rcases badS_any hbad true with h | h | h
          · exact absurd h g0
          · exact absurd h g1
          · exact absurd h g2
        · omega
        · exact e
      subst hz
      have s0 := badS_side g0
      have s1 := badS_side g1
      have s2 := badS_side g2
      have p1 : 0 ≤ n0 * n1 := Int.mul_nonneg (by omega) (by omega)
      have p2 : n0 * n1 ≤ 192 * 192 := Int.mul_le_mul s0.2 s1.2 (by omega) (by omega)
      have p3 : 0 ≤ n0 * n1 * n2 := Int.mul_nonneg p1 (by omega)
      have q1 : IntKind.i64.wrap (n0 * n1) = n0 * n1 := IntWalk.i64_in _ (by omega)
      have q2 : IntKind.i64.wrap (n0 * n1 * n2) = n0 * n1 * n2 := IntWalk.i64_in _ (by omega)
      have HP := Lib.hid hp
      clear s0 s1 s2 p1 p2 p3 hp
      by_cases c : m = n0 * n1 * n2
      · have HC := Lib.hid c
        have c1 : (m != n0 * n1 * n2) = false := by simp [c]
        go_wp2_with fail
        go_ret
        exact ⟨⟨0, rfl, Or.inr ⟨⟨g0, g1, g2⟩, Or.inr (Or.inr ⟨HP.out, HC.out, rfl⟩)⟩⟩, HB2.out⟩
      · have HC := Lib.hid c
        have c1 : (m != n0 * n1 * n2) = true := by simp [c]
        go_wp2_with fail
        go_ret
        exact ⟨⟨3, rfl, Or.inr ⟨⟨g0, g1, g2⟩, Or.inr (Or.inl ⟨HP.out, HC.out, rfl⟩)⟩⟩, HB2.out⟩

end Go.Proofs.YtehiabiahipkhaaGreat

namespace Go.Proofs.YtehiabiahipkhaaGreat
open Go.RowKit
set_option linter.unusedVariables false
set_option linter.unusedSimpArgs false

theorem few_any (n0 n1 n2 : Int) (ao : Option Addr) (m c : Nat) (w : World) :
    Calls Tryz.prog 9 #[countV n0 n1 n2 ao m c] w fun e w' => e = .returned (.bool (decide ((m : Int) ≤ 1024))) ∧ Bel w w' := by
  go_enter Tryz.func9, Tryz.ntmps9
  go_wp2
  go_ret
  exact ⟨rfl, (Bel.refl w).alloc _⟩

set_option maxHeartbeats 2000000 in
theorem rat_any (n0 n1 n2 i : Nat) (w : World) (a1 : 1 ≤ n1) (a2 : 1 ≤ n2) (b1 : n1 ≤ 192) (b2 : n2 ≤ 192) (hi : i < 262144) :
    Calls Tryz.prog 40 #[vecV n0 n1 n2, .int .i64 i] w fun e w' => e = .returned (vecV (i / (n1 * n2) : Nat) (i / n2 % n1 : Nat) (i % n2 : Nat)) ∧ Bel w w' := by
  obtain ⟨q, hq⟩ : ∃ q, i / n2 = q := ⟨_, rfl⟩
  obtain ⟨x, hx⟩ : ∃ x, i / (n1 * n2) = x := ⟨_, rfl⟩
  have hpl : n1 * n2 ≤ 192 * 192 := Nat.mul_le_mul b1 b2
  have hpg : 1 ≤ n1 * n2 := Nat.mul_pos a1 a2
  obtain ⟨y, hy⟩ : ∃ y, q % n1 = y := ⟨_, rfl⟩
  obtain ⟨z, hz⟩ : ∃ z, i % n2 = z := ⟨_, rfl⟩
  have hql : q ≤ i := by rw [← hq]; exact Nat.div_le_self _ _
  have hxl : x ≤ i := by rw [← hx]; exact Nat.div_le_self _ _
  have hyl : y < n1 := by rw [← hy]; exact Nat.mod_lt _ (by omega)
  have hzl : z < n2 := by rw [← hz]; exact Nat.mod_lt _ (by omega)
  have t1 : (i : Int).tdiv n2 = (q : Int) := by rw [Int.tdiv_eq_ediv_of_nonneg (by omega), ← hq]; exact (Int.natCast_ediv i n2).symm
  obtain ⟨pp, hpp⟩ : ∃ pp, n1 * n2 = pp := ⟨_, rfl⟩
  rw [hpp] at hx hpl hpg
  have t0 : IntKind.i64.wrap ((n1 : Int) * (n2 : Int)) = (pp : Int) := by rw [← Int.natCast_mul, hpp]; exact IntWalk.i64_in _ (by omega)
  have t2 : (i : Int).tdiv pp = (x : Int) := by rw [Int.tdiv_eq_ediv_of_nonneg (by omega), ← hx]; exact (Int.natCast_ediv i pp).symm
  have t3 : (q : Int).tmod n1 = (y : Int) := by rw [Int.tmod_eq_emod_of_nonneg (by omega), ← hy]; exact (Int.natCast_emod q n1).symm
  have t4 : (i : Int).tmod n2 = (z : Int) := by rw [Int.tmod_eq_emod_of_nonneg (by omega), ← hz]; exact (Int.natCast_emod i n2).symm
  have w1 : IntKind.i64.wrap (q : Int) = (q : Int) := IntWalk.i64_in _ (by omega)
  have w2 : IntKind.i64.wrap (x : Int) = (x : Int) := IntWalk.i64_in _ (by omega)
  have w3 : IntKind.i64.wrap (y : Int) = (y : Int) := IntWalk.i64_in _ (by omega)
  have w4 : IntKind.i64.wrap (z : Int) = (z : Int) := IntWalk.i64_in _ (by omega)
  have z1 : ¬ n1 = 0 := by omega
  have z2 : ¬ n2 = 0 := by omega
  have z3 : ¬ pp = 0 := by omega
  rw [hpp, hq, hx, hy, hz]
  clear hq hx hy hz hql hxl hyl hzl hpp hpl hpg
  have K := (v3_new w n0 n1 n2 23).bel ((Bel.refl _).alloc (.cells #[.int .i64 0, .int .i64 0, .int .i64 0] 23))
  have HB : Hid (Bel w ((w.alloc (.cells #[.int .i64 n0, .int .i64 n1, .int .i64 n2] 23)).alloc (.cells #[.int .i64 0, .int .i64 0, .int .i64 0] 23))) := ((Bel.refl w).alloc _).alloc _
  have HK := Lib.hid K
  clear K
  go_enter Tryz.func40, Tryz.ntmps40
  go_wp2_with fail
  obtain ⟨k0, k1, k2⟩ := HK.out
  have G : Hid (∀ i, i < 3 → ((w.alloc (.cells #[.int .i64 n0, .int .i64 n1, .int .i64 n2] 23)).alloc (.cells #[.int .i64 0, .int .i64 0, .int .i64 0] 23)).cell? ⟨w.heap.size + 1, i, none⟩ = some (.int .i64 0) ∧ ((w.alloc (.cells #[.int .i64 n0, .int .i64 n1, .int .i64 n2] 23)).alloc (.cells #[.int .i64 0, .int .i64 0, .int .i64 0] 23)).frozen? ⟨w.heap.size + 1, i, none⟩ = false) := fun i hi => by
    refine ⟨?_, frozen_new2 _ _ _ _ _⟩
    rw [cell_new2]
    rcases (by omega : i = 0 ∨ i = 1 ∨ i = 2) with rfl | rfl | rfl <;> rfl
  generalize World.alloc _ _ = W at HB HK k0 k1 k2 G ⊢
  obtain ⟨g0, f0⟩ := G.out 0 (by omega)
  obtain ⟨g1, f1⟩ := G.out 1 (by omega)
  obtain ⟨g2, f2⟩ := G.out 2 (by omega)
  have hb0 : Bel W W.drew := (Bel.refl W).drew
  go_region_held3 (fun w' => w'.cell? ⟨w.heap.size, 1, none⟩ = some (.int .i64 n1) ∧ w'.cell? ⟨w.heap.size, 2, none⟩ = some (.int .i64 n2)) (first | exact ⟨k1, k2⟩ | exact ⟨cell_keep (cell_keep (cell_keep k1 (by omega)) (by omega)) (by omega), cell_keep (cell_keep (cell_keep k2 (by omega)) (by omega)) (by omega)⟩) (fail)
  go_wp2_with fail
  obtain ⟨r0, r1, r2⟩ := vec_set g0 g1 g2 (.int .i64 x) (.int .i64 y) (.int .i64 z)
  have hle : w.heap.size ≤ w.heap.size + 1 := by omega
  refine bodyPost_ret (v := vecV x y z) (by simp [results, Tryz.results40, go_sem, r0, r1, r2]) rfl ⟨rfl, ?_⟩
  exact (((HB.out.setCell (p := ⟨w.heap.size + 1, 0, none⟩) hle _).setCell (p := ⟨w.heap.size + 1, 1, none⟩) hle _).setCell (p := ⟨w.heap.size + 1, 2, none⟩) hle _).drew

end Go.Proofs.YtehiabiahipkhaaGreat

namespace Go.Proofs.YtehiabiahipkhaaGreat
open Go.RowKit
set_option linter.unusedVariables false
set_option linter.unusedSimpArgs false

set_option maxHeartbeats 2000000 in
theorem ints_any (b1 o1 c1 b2 o2 c2 m1 m2 : Nat) (a1 a2 : Option Addr) (xs ys : List Int) (w : World) (hl1 : xs.length = m1) (hl2 : ys.length = m2) (hm : m1 ≤ 1000000)
    (hx : ∀ i, i < m1 → a1 = some ⟨b1, o1, none⟩ ∧ w.cell? ⟨b1, o1 + i, none⟩ = some (iV (xs.getD i 0))) (hy : ∀ i, i < m2 → a2 = some ⟨b2, o2, none⟩ ∧ w.cell? ⟨b2, o2 + i, none⟩ = some (iV (ys.getD i 0))) :
    Calls Tryz.prog 27 #[.slice a1 m1 c1, .slice a2 m2 c2] w fun e w' => e = .returned (.bool (decide (xs = ys))) ∧ Bel w w' := by
  have HX := Lib.hid hx
  have HY := Lib.hid hy
  have HL1 := Lib.hid hl1
  have HL2 := Lib.hid hl2
  clear hx hy hl1 hl2
  by_cases hne : m1 = m2
  · subst hne
    go_enter Tryz.func27, Tryz.ntmps27
    go_wp2_with fail
    go_loopw [13] (fun i wr => ∃ j : Nat, j ≤ m1 ∧ i = .int .i64 j ∧ (∀ k, k < j → xs.getD k 0 = ys.getD k 0) ∧ Bel w wr) (fun i _ => m1 - (intOf i).toNat)
    case atStart => exact ⟨0, Nat.zero_le _, rfl, fun k hk => absurd hk (by omega), Bel.refl w⟩
    case round =>
      obtain ⟨j, hj, rfl, hal, hbw⟩ := hrel
      by_cases hlt : j < m1
      · obtain ⟨rfl, x1⟩ := HX.out j hlt
        obtain ⟨rfl, y1⟩ := HY.out j hlt
        have x2 := hbw.cellv x1
        have y2 := hbw.cellv y1
        obtain ⟨x, hxx⟩ : ∃ x, xs.getD j 0 = x := ⟨_, rfl⟩
        obtain ⟨y, hyy⟩ : ∃ y, ys.getD j 0 = y := ⟨_, rfl⟩
        rw [hxx] at x2
        rw [hyy] at y2
        have HXX := Lib.hid hxx
        have HYY := Lib.hid hyy
        have HAL := Lib.hid hal
        have HBW := Lib.hid hbw
        have HLT := Lib.hid hlt
        have hji : (j : Int) < m1 := by omega
        clear x1 y1 hxx hyy hal hbw
        have HS0 : Hid (wr.cell? ⟨b1, o1 + j, none⟩ = some (iV x) ∧ wr.cell? ⟨b2, o2 + j, none⟩ = some (iV y)) := ⟨x2, y2⟩
        clear x2 y2
        by_cases he : x = y
        · subst he
          go_wp2_with fail
          go_region_held3 (fun w' => w'.cell? ⟨b1, o1 + j, none⟩ = some (iV x) ∧ w'.cell? ⟨b2, o2 + j, none⟩ = some (iV x)) (exact HS0.out) (fail)
          go_wp2_with fail
          go_roundw
          case rel =>
            refine ⟨j + 1, by omega, by go_num, fun k hk => ?_, HBW.out.drew⟩
            by_cases hkj : k < j
            · exact HAL.out k hkj
            · obtain rfl : k = j := by omega
              rw [HXX.out, HYY.out]
          case measure => simp [intOf]; omega
        · have c1 : (x != y) = true := by simp [he]
          have c2 : (x == y) = false := by simp [he]
          have HNE : Hid (decide (xs = ys) = false) := decide_eq_false fun h => he (by rw [← HXX.out, ← HYY.out, h])
          go_wp2_with fail
          go_region_held3 (fun w' => w'.cell? ⟨b1, o1 + j, none⟩ = some (iV x) ∧ w'.cell? ⟨b2, o2 + j, none⟩ = some (iV y)) (exact HS0.out) (fail)
          go_wp2_with fail
          go_ret
          rw [HNE.out]
          exact ⟨rfl, HBW.out.drew⟩
      · have hjm : m1 = j := by omega
        have HEQ : Hid (decide (xs = ys) = true) := decide_eq_true (by
          apply List.ext_getElem (HL1.out.trans HL2.out.symm)
          intro k hk1 hk2
          have := hal k (by rw [HL1.out] at hk1; omega)
          rw [List.getD_eq_getElem?_getD, List.getD_eq_getElem?_getD, List.getElem?_eq_getElem hk1, List.getElem?_eq_getElem hk2] at this
          exact this)
        have HBW := Lib.hid hbw
        clear hal hbw
        subst hjm
        go_wp2_with fail
        go_ret
        rw [HEQ.out]
        exact ⟨rfl, HBW.out⟩
  · have HNE : Hid (decide (xs = ys) = false) := decide_eq_false fun h => hne (by rw [← HL1.out, ← HL2.out, h])
    have c1 : ((m1 : Int) != m2) = true := by simp; omega
    have c2 : ¬ ((m1 : Int) = m2) := by omega
    go_enter Tryz.func27, Tryz.ntmps27
    go_wp2_with fail
    go_ret
    rw [HNE.out]
    exact ⟨rfl, Bel.refl w⟩

end Go.Proofs.YtehiabiahipkhaaGreat

namespace Go.Proofs.YtehiabiahipkhaaGreat
open Go.RowKit
set_option linter.unusedVariables false
set_option linter.unusedSimpArgs false

/-- What facetref23.Counts answers. -/
def CountE (n0 n1 n2 : Int) (m : Nat) (cs : List Int) (z : Int) : Prop :=
  (GridE true n0 n1 n2 m z ∧ z ≠ 0) ∨ (GridE true n0 n1 n2 m 0 ∧ ((z = 0 ∧ Within cs) ∨ (z = 4 ∧ ¬ Within cs)))

set_option maxHeartbeats 4000000 in
theorem rcounts_any (b off cap m : Nat) (n0 n1 n2 : Int) (ao : Option Addr) (cs : List Int) (w : World) (hl : cs.length = m) (hm : m ≤ 1000000)
    (hx : ∀ i, i < m → ao = some ⟨b, off, none⟩ ∧ w.cell? ⟨b, off + i, none⟩ = some (iV (cs.getD i 0))) :
    Calls Tryz.prog 33 #[countV n0 n1 n2 ao m cap] w fun e w' => (∃ z : Int, e = .returned (.int .i64 z) ∧ CountE n0 n1 n2 m cs z) ∧ Bel w w' := by
  have HL := Lib.hid hl
  have HX := Lib.hid hx
  clear hl hx
  go_enter Tryz.func33, Tryz.ntmps33
  go_wp2_with fail
  have K : Hid (CVar (w.alloc (.cells #[.int .i64 n0, .int .i64 n1, .int .i64 n2, .slice ao m cap] 26)) w.heap.size n0 n1 n2 ao m cap) := cvar_new _ _ _ _ _ _ _ _
  have HB := Lib.hid ((Bel.refl w).alloc (.cells #[.int .i64 n0, .int .i64 n1, .int .i64 n2, .slice ao m cap] 26))
  generalize World.alloc _ _ = W at K HB ⊢
  refine (grid_any true n0 n1 n2 m _).mono ?_
  rintro e w1 ⟨⟨z1, rfl, hz1⟩, hb1⟩
  have HB1 := Lib.hid (HB.out.trans hb1)
  have HZ1 := Lib.hid hz1
  have x3 := hb1.cellv K.out.2.2.2
  clear hb1 hz1 K HB
  by_cases hz : z1 = 0
  · subst hz
    go_wp2_with fail
    clear x3
    obtain ⟨w1', rfl⟩ : ∃ w1' : World, w1' = w1 := ⟨_, rfl⟩
    go_loopw [18] (fun i wr => ∃ k : Nat, k ≤ m ∧ i = .int .i64 k ∧ (∀ i, i < k → -1048576 ≤ cs.getD i 0 ∧ cs.getD i 0 ≤ 1048576) ∧ wr = w1') (fun i _ => m - (intOf i).toNat)
    case atStart => exact ⟨0, Nat.zero_le _, rfl, fun i hi => absurd hi (by omega), rfl⟩
    case round =>
      obtain ⟨k, hk, rfl, hal, hwr⟩ := hrel
      subst hwr
      by_cases hlt : k < m
      · obtain ⟨rfl, hc0⟩ := HX.out k hlt
        have hcell := HB1.out.cellv hc0
        have HAL := Lib.hid hal
        have hki : (k : Int) < m := by omega
        obtain ⟨z, hz⟩ : ∃ z, cs.getD k 0 = z := ⟨_, rfl⟩
        rw [hz] at hcell
        have HZ := Lib.hid hz
        have HLT := Lib.hid hlt
        clear hal hz hc0
        by_cases h1 : z < -1048576
        · go_wp2_with fail
          go_ret
          refine ⟨⟨4, rfl, Or.inr ⟨HZ1.out, Or.inr ⟨rfl, fun hw => ?_⟩⟩⟩, HB1.out⟩
          have := hw k (by rw [HL.out]; exact HLT.out)
          rw [HZ.out] at this
          omega
        · by_cases h2 : 1048576 < z
          · go_wp2_with fail
            go_ret
            refine ⟨⟨4, rfl, Or.inr ⟨HZ1.out, Or.inr ⟨rfl, fun hw => ?_⟩⟩⟩, HB1.out⟩
            have := hw k (by rw [HL.out]; exact HLT.out)
            rw [HZ.out] at this
            omega
          · have HZB : Hid (-1048576 ≤ z ∧ z ≤ 1048576) := ⟨by omega, by omega⟩
            go_wp2_with fail
            go_roundw
            case rel =>
              refine ⟨k + 1, by omega, by go_num, fun i hi => ?_, by first | rfl | trivial⟩
              by_cases hik : i < k
              · exact HAL.out i hik
              · obtain rfl : i = k := by omega
                rw [HZ.out]; exact HZB.out
            case measure => simp [intOf]; omega
      · have hkl : m = k := by omega
        subst hkl
        have HAL := Lib.hid hal
        clear hal
        go_wp2_with fail
        go_ret
        exact ⟨⟨0, rfl, Or.inr ⟨HZ1.out, Or.inl ⟨rfl, fun i hi => HAL.out i (by rw [HL.out] at hi; exact hi)⟩⟩⟩, HB1.out⟩
  · have c1 : (z1 != 0) = true := by simp [hz]
    have c2 : (z1 == 0) = false := by simp [hz]
    have HN := Lib.hid hz
    go_wp2_with fail
    go_ret
    exact ⟨⟨z1, rfl, Or.inl ⟨HZ1.out, HN.out⟩⟩, HB1.out⟩

end Go.Proofs.YtehiabiahipkhaaGreat
