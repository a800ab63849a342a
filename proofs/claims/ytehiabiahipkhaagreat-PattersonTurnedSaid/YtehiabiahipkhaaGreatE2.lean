/-
  The walk of facetlaw23.grid: whole numbers on sides that divide 192.
-/
import Derived.Test.YtehiabiahipkhaaGreatE1
namespace Go.Proofs.YtehiabiahipkhaaGreat
open Go.RowKit
set_option linter.unusedVariables false
set_option linter.unusedSimpArgs false

/-- A side that grid draws. -/
structure GS (s : Nat) : Prop where
  a : 1 ≤ s
  b : s ≤ 16
  c : 192 % s = 0
/-- The sides before a round. -/
def GI (j a b c : Nat) : Prop := GS a ∧ GS b ∧ GS c ∧ a * b * c ≤ 256 ∧ (j ≤ 0 → a = 1) ∧ (j ≤ 1 → b = 1) ∧ (j ≤ 2 → c = 1)
theorem gs_one : GS 1 := ⟨by decide, by decide, by decide⟩
theorem GI.start : GI 0 1 1 1 := ⟨gs_one, gs_one, gs_one, by decide, fun _ => rfl, fun _ => rfl, fun _ => rfl⟩
theorem GI.next {j a b c : Nat} (h : GI j a b c) : GI (j + 1) a b c := ⟨h.1, h.2.1, h.2.2.1, h.2.2.2.1, fun _ => h.2.2.2.2.1 (by omega), fun _ => h.2.2.2.2.2.1 (by omega), fun _ => h.2.2.2.2.2.2 (by omega)⟩
theorem GI.set0 {a b c s : Nat} (h : GI 0 a b c) (hs : GS s) (hp : a * b * c * s ≤ 256) : GI 1 s b c := by
  obtain ⟨_, h2, h3, _, k0, k1, k2⟩ := h
  have := k0 (by omega)
  have := k1 (by omega)
  have := k2 (by omega)
  subst_vars
  exact ⟨hs, h2, h3, by simpa using hp, fun h => absurd h (by omega), fun _ => rfl, fun _ => rfl⟩
theorem GI.set1 {a b c s : Nat} (h : GI 1 a b c) (hs : GS s) (hp : a * b * c * s ≤ 256) : GI 2 a s c := by
  obtain ⟨h1, h2, h3, _, k0, k1, k2⟩ := h
  have := k1 (by omega)
  have := k2 (by omega)
  subst_vars
  exact ⟨h1, hs, h3, by simpa using hp, fun h => absurd h (by omega), fun h => absurd h (by omega), fun _ => rfl⟩
theorem GI.set2 {a b c s : Nat} (h : GI 2 a b c) (hs : GS s) (hp : a * b * c * s ≤ 256) : GI 3 a b s := by
  obtain ⟨h1, h2, h3, _, k0, k1, k2⟩ := h
  have := k2 (by omega)
  subst_vars
  exact ⟨h1, h2, hs, by simpa using hp, fun h => absurd h (by omega), fun h => absurd h (by omega), fun h => absurd h (by omega)⟩
theorem GI.s3 {a b c : Nat} (h : GI 3 a b c) : S3 a b c (a * b * c) :=
  ⟨⟨h.1.a, by have := h.1.b; omega, h.1.c⟩, ⟨h.2.1.a, by have := h.2.1.b; omega, h.2.1.c⟩, ⟨h.2.2.1.a, by have := h.2.2.1.b; omega, h.2.2.1.c⟩, rfl, by have := h.2.2.2.1; omega⟩

theorem prod_facts {j a b c s : Nat} (h : GI j a b c) (hs : GS s) :
    IntKind.i64.wrap ((a : Int) * (b : Int)) = ((a * b : Nat) : Int) ∧ IntKind.i64.wrap (((a * b : Nat) : Int) * (c : Int)) = ((a * b * c : Nat) : Int) ∧ IntKind.i64.wrap (((a * b * c : Nat) : Int) * (s : Int)) = ((a * b * c * s : Nat) : Int) := by
  have gen : ∀ a : Nat, a < 2 ^ 30 → IntKind.i64.wrap (a : Int) = (a : Int) := fun a h => IntWalk.i64_in _ (by omega)
  have p1 : a * b ≤ 16 * 16 := Nat.mul_le_mul h.1.b h.2.1.b
  have p2 : a * b * c * s ≤ 256 * 16 := Nat.mul_le_mul h.2.2.2.1 hs.b
  have p3 := h.2.2.2.1
  refine ⟨?_, ?_, ?_⟩
  · rw [← Int.natCast_mul]; exact gen _ (by omega)
  · rw [← Int.natCast_mul]; exact gen _ (by omega)
  · rw [← Int.natCast_mul]; exact gen _ (by omega)
theorem wrap_u8 {r : Nat} (h : r < 8) : IntKind.u8.wrap (r : Int) = (r : Int) := by
  rcases (by omega : r = 0 ∨ r = 1 ∨ r = 2 ∨ r = 3 ∨ r = 4 ∨ r = 5 ∨ r = 6 ∨ r = 7) with rfl | rfl | rfl | rfl | rfl | rfl | rfl | rfl <;> decide
/-- The list of the sides, in memory. -/
def L8 (W : World) (p : Nat) : Prop := ∀ r, r < 8 → ∃ s : Nat, GS s ∧ W.cell? ⟨p, r, none⟩ = some (.int .i64 s)
theorem L8.bel {W W' : World} {p : Nat} (h : L8 W p) (hb : Bel W W') : L8 W' p := fun r hr => by
  obtain ⟨s, h1, h2⟩ := h r hr
  exact ⟨s, h1, hb.cellv h2⟩
theorem l8_new (W : World) (T : TypeId) : L8 (W.alloc (.cells #[.int .i64 1, .int .i64 2, .int .i64 3, .int .i64 4, .int .i64 6, .int .i64 8, .int .i64 12, .int .i64 16] T)) W.heap.size := fun r hr => by
  rcases (by omega : r = 0 ∨ r = 1 ∨ r = 2 ∨ r = 3 ∨ r = 4 ∨ r = 5 ∨ r = 6 ∨ r = 7) with rfl | rfl | rfl | rfl | rfl | rfl | rfl | rfl
  · exact ⟨1, ⟨by decide, by decide, by decide⟩, cell_new _ _ _ 0⟩
  · exact ⟨2, ⟨by decide, by decide, by decide⟩, cell_new _ _ _ 1⟩
  · exact ⟨3, ⟨by decide, by decide, by decide⟩, cell_new _ _ _ 2⟩
  · exact ⟨4, ⟨by decide, by decide, by decide⟩, cell_new _ _ _ 3⟩
  · exact ⟨6, ⟨by decide, by decide, by decide⟩, cell_new _ _ _ 4⟩
  · exact ⟨8, ⟨by decide, by decide, by decide⟩, cell_new _ _ _ 5⟩
  · exact ⟨12, ⟨by decide, by decide, by decide⟩, cell_new _ _ _ 6⟩
  · exact ⟨16, ⟨by decide, by decide, by decide⟩, cell_new _ _ _ 7⟩

/-- A slice of int16. -/
def Shorts (W : World) (ao : Option Addr) (m : Nat) (xs : Nat → Int) : Prop :=
  ∀ j, j < m → ∃ b off, ao = some ⟨b, off, none⟩ ∧ W.cell? ⟨b, off + j, none⟩ = some (.int .i16 (xs j)) ∧ -32768 ≤ xs j ∧ xs j ≤ 32767
theorem Shorts.bel {W W' : World} {ao : Option Addr} {m : Nat} {xs : Nat → Int} (h : Shorts W ao m xs) (hb : Bel W W') : Shorts W' ao m xs := fun j hj => by
  obtain ⟨b, off, h1, h2, h3⟩ := h j hj
  exact ⟨b, off, h1, hb.cellv h2, h3⟩

/-- What grid answers. -/
def GridA (w : World) (e : Ending) (w' : World) : Prop :=
  ∃ (n0 n1 n2 L g : Nat) (cs : List Int), e = .returned (countV n0 n1 n2 (some ⟨g, 0, none⟩) L L) ∧ S3 n0 n1 n2 L ∧ L ≤ 256 ∧ cs.length = L ∧ (∀ i, (cs.getD i 0).natAbs ≤ 32768) ∧ w.heap.size ≤ g ∧ IArr w' g L cs
theorem R4.far {W : World} {p : Nat} (h : R4 W p) {q : Addr} (hq : p ≠ q.block) (x : Value) : R4 (W.setCell q x) p := fun i hi =>
  ⟨cellD_eq (cell_far (h i hi).1 hq), by simp [(h i hi).2]⟩
theorem L8.far {W : World} {p : Nat} (h : L8 W p) {q : Addr} (hq : p ≠ q.block) (x : Value) : L8 (W.setCell q x) p := fun r hr => by
  obtain ⟨s, h1, h2⟩ := h r hr
  exact ⟨s, h1, cell_far h2 hq⟩
theorem B3.far {W : World} {p a b c : Nat} (h : B3 W p a b c) {q : Addr} (hq : p ≠ q.block) (x : Value) : B3 (W.setCell q x) p a b c := ⟨cell_far h.1 hq, cell_far h.2.1 hq, cell_far h.2.2 hq⟩
/-- The variables of grid. -/
def GM (w W : World) (p2 p4 p5 p6 k0 k1 k2 a b c : Nat) : Prop :=
  B3 W p2 k0 k1 k2 ∧ R4 W p4 ∧ L8 W p5 ∧ V3 W p6 a b c ∧ (∀ j, j < 3 → W.frozen? ⟨p6, j, none⟩ = false) ∧ Bel w W ∧ (p2 ≠ p6 ∧ p4 ≠ p6 ∧ p5 ≠ p6 ∧ w.heap.size ≤ p6)
theorem grid_mem {w W4 : World} {k0 k1 k2 : Nat} {x0 x1 x2 x3 : Value} {T1 T2 T3 T4 : TypeId}
    (h : (((w.alloc (.cells #[.int .u8 k0, .int .u8 k1, .int .u8 k2] T1)).alloc (.cells #[x0, x1, x2, x3] T2)).alloc (.cells #[.int .i64 1, .int .i64 2, .int .i64 3, .int .i64 4, .int .i64 6, .int .i64 8, .int .i64 12, .int .i64 16] T3)).alloc (.cells #[.int .i64 1, .int .i64 1, .int .i64 1] T4) = W4) :
    GM w W4 w.heap.size (w.heap.size + 1) (w.heap.size + 1 + 1) (w.heap.size + 1 + 1 + 1) k0 k1 k2 1 1 1 := by
  subst h
  have z1 := size_alloc' w (.cells #[.int .u8 k0, .int .u8 k1, .int .u8 k2] T1)
  have hb := b3_new w k0 k1 k2 T1
  have b0 := (Bel.refl w).alloc (.cells #[.int .u8 k0, .int .u8 k1, .int .u8 k2] T1)
  generalize w.alloc _ = w1 at *
  rw [← z1]
  have z2 := size_alloc' w1 (.cells #[x0, x1, x2, x3] T2)
  have hr := r4_new w1 x0 x1 x2 x3 T2
  have b1 := (Bel.refl w1).alloc (.cells #[x0, x1, x2, x3] T2)
  generalize w1.alloc _ = w2 at *
  rw [← z2]
  have z3 := size_alloc' w2 (.cells #[.int .i64 1, .int .i64 2, .int .i64 3, .int .i64 4, .int .i64 6, .int .i64 8, .int .i64 12, .int .i64 16] T3)
  have hl := l8_new w2 T3
  have b2 := (Bel.refl w2).alloc (.cells #[.int .i64 1, .int .i64 2, .int .i64 3, .int .i64 4, .int .i64 6, .int .i64 8, .int .i64 12, .int .i64 16] T3)
  generalize w2.alloc _ = w3 at *
  rw [← z3]
  have b3 := (Bel.refl w3).alloc (.cells #[.int .i64 1, .int .i64 1, .int .i64 1] T4)
  refine ⟨((hb.bel b1).bel b2).bel b3, (hr.bel b2).bel b3, hl.bel b3, v3_new _ 1 1 1 _, fun j _ => frozen_new _ _ _ _, ((b0.trans b1).trans b2).trans b3, by omega, by omega, by omega, by omega⟩
theorem GM.set0 {w W : World} {p2 p4 p5 p6 k0 k1 k2 a b c : Nat} (h : GM w W p2 p4 p5 p6 k0 k1 k2 a b c) (s : Nat) : GM w (W.setCell ⟨p6, 0, none⟩ (.int .i64 s)) p2 p4 p5 p6 k0 k1 k2 s b c := by
  obtain ⟨h1, h2, h3, h4, h5, h6, n1, n2, n3, n4⟩ := h
  exact ⟨h1.far n1 _, h2.far n2 _, h3.far n3 _, ⟨World.cell?_setCell_same' W _ _ (by rw [h4.1]; rfl), by rw [World.cell?_setCell_other W _ _ _ (fun e => by cases e)]; exact h4.2.1, by rw [World.cell?_setCell_other W _ _ _ (fun e => by cases e)]; exact h4.2.2⟩, fun j hj => by simp [h5 j hj], h6.setCell n4 _, n1, n2, n3, n4⟩
theorem GM.set1 {w W : World} {p2 p4 p5 p6 k0 k1 k2 a b c : Nat} (h : GM w W p2 p4 p5 p6 k0 k1 k2 a b c) (s : Nat) : GM w (W.setCell ⟨p6, 1, none⟩ (.int .i64 s)) p2 p4 p5 p6 k0 k1 k2 a s c := by
  obtain ⟨h1, h2, h3, h4, h5, h6, n1, n2, n3, n4⟩ := h
  exact ⟨h1.far n1 _, h2.far n2 _, h3.far n3 _, ⟨by rw [World.cell?_setCell_other W _ _ _ (fun e => by cases e)]; exact h4.1, World.cell?_setCell_same' W _ _ (by rw [h4.2.1]; rfl), by rw [World.cell?_setCell_other W _ _ _ (fun e => by cases e)]; exact h4.2.2⟩, fun j hj => by simp [h5 j hj], h6.setCell n4 _, n1, n2, n3, n4⟩
theorem GM.set2 {w W : World} {p2 p4 p5 p6 k0 k1 k2 a b c : Nat} (h : GM w W p2 p4 p5 p6 k0 k1 k2 a b c) (s : Nat) : GM w (W.setCell ⟨p6, 2, none⟩ (.int .i64 s)) p2 p4 p5 p6 k0 k1 k2 a b s := by
  obtain ⟨h1, h2, h3, h4, h5, h6, n1, n2, n3, n4⟩ := h
  exact ⟨h1.far n1 _, h2.far n2 _, h3.far n3 _, ⟨by rw [World.cell?_setCell_other W _ _ _ (fun e => by cases e)]; exact h4.1, by rw [World.cell?_setCell_other W _ _ _ (fun e => by cases e)]; exact h4.2.1, World.cell?_setCell_same' W _ _ (by rw [h4.2.2]; rfl)⟩, fun j hj => by simp [h5 j hj], h6.setCell n4 _, n1, n2, n3, n4⟩
theorem i16_wrap {x : Int} (h1 : -32768 ≤ x) (h2 : x ≤ 32767) : IntKind.i64.wrap x = x := IntWalk.i64_in _ (by omega)
theorem getD_rep (L i : Nat) : (List.replicate L (0 : Int)).getD i 0 = 0 := by
  rw [List.getD_eq_getElem?_getD, List.getElem?_replicate]
  split <;> rfl
theorem small_set {cs : List Int} (h : ∀ i, (cs.getD i 0).natAbs ≤ 32768) (k : Nat) (x : Int) (hx : x.natAbs ≤ 32768) : ∀ i, ((cs.set k x).getD i 0).natAbs ≤ 32768 := fun i => by
  rw [List.getD_eq_getElem?_getD, List.getElem?_set]
  split
  · split
    · exact hx
    · decide
  · have := h i
    rwa [List.getD_eq_getElem?_getD] at this

set_option maxHeartbeats 8000000 in
set_option maxRecDepth 100000 in
theorem drawn_any (k0 k1 k2 m cp : Nat) (ao : Option Addr) (xs : Nat → Int) (w : World) (hk : k0 < 256 ∧ k1 < 256 ∧ k2 < 256) (hx : Shorts w ao m xs) :
    Calls Tryz.prog 17 #[byteV k0 k1 k2, .slice ao m cp] w fun e w' => GridA w e w' ∧ Bel w w' := by
  have HX := Lib.hid hx
  clear hx
  obtain ⟨hk0, hk1, hk2⟩ := hk
  go_enter Tryz.func17, Tryz.ntmps17
  go_wp2_with fail
  generalize hW4 : World.alloc _ _ = W4
  have HG4 := Lib.hid (grid_mem hW4)
  have HP : Hid (w.heap.size < w.heap.size + 1 + 1 + 1 ∧ w.heap.size + 1 < w.heap.size + 1 + 1 + 1 ∧ w.heap.size + 1 + 1 < w.heap.size + 1 + 1 + 1 ∧ w.heap.size ≤ w.heap.size + 1) := by unfold Hid; omega
  clear hW4
  generalize w.heap.size + 1 + 1 + 1 = p6 at HG4 HP ⊢
  generalize w.heap.size + 1 + 1 = p5 at HG4 HP ⊢
  generalize hp4 : w.heap.size + 1 = p4 at HG4 HP ⊢
  have HP4 := Lib.hid hp4
  clear hp4
  generalize hp2 : w.heap.size = p2 at HG4 HP ⊢
  have HP2 := Lib.hid hp2
  clear hp2
  go_loopw [13] (fun i wr => ∃ j a b c : Nat, i = .int .i64 j ∧ j ≤ 3 ∧ GI j a b c ∧ GM w wr p2 p4 p5 p6 k0 k1 k2 a b c) (fun i _ => 3 - (intOf i).toNat)
  case atStart => exact ⟨0, 1, 1, 1, rfl, by omega, GI.start, HG4.out⟩
  case round =>
    clear HG4
    obtain ⟨j, a, b, c, rfl, hj3, hgi, hgm⟩ := hrel
    have hgm' := hgm
    obtain ⟨g2, g4, g5, g6, gf, gb, _⟩ := hgm'
    rcases (by omega : j = 0 ∨ j = 1 ∨ j = 2 ∨ j = 3) with rfl | rfl | rfl | rfl
    · have hr8 : k0 % 8 < 8 := Nat.mod_lt _ (by omega)
      obtain ⟨s, hs, hcs⟩ := g5 _ hr8
      have r1 : ((k0 : Int)).tmod 8 = ((k0 % 8 : Nat) : Int) := by rw [Int.tmod_eq_emod_of_nonneg (Int.natCast_nonneg _)]; rfl
      have r2 : IntKind.u8.wrap ((k0 % 8 : Nat) : Int) = ((k0 % 8 : Nat) : Int) := wrap_u8 (by omega)
      have HGS := Lib.hid hs
      have HGI := Lib.hid hgi
      obtain ⟨q1, q2, q3⟩ := prod_facts hgi hs
      generalize k0 % 8 = r at *
      have hri : (r : Int) < 8 := by omega
      have hcj := g2.1
      obtain ⟨v0, v1, v2⟩ := g6
      have ff := gf 0 (by omega)
      have HG := Lib.hid hgm
      have HQ : Hid (a * b * c * s ≤ 256 → GI 1 s b c) := fun h => hgi.set0 hs h
      clear hs hgi hgm g2 g4 g5 hr8
      generalize a * b * c * s = y3 at *
      generalize a * b * c = y2 at *
      generalize a * b = y1 at *
      by_cases hp : y3 ≤ 256
      · have hpi : (y3 : Int) ≤ 256 := by omega
        go_wp2_with fail
        go_roundw
        case rel => exact ⟨1, s, b, c, rfl, by omega, HQ.out hp, HG.out.set0 s⟩
        case measure => simp [intOf]
      · have hpi : ¬ (y3 : Int) ≤ 256 := by omega
        go_wp2_with fail
        go_roundw
        case rel => exact ⟨1, a, b, c, rfl, by omega, HGI.out.next, HG.out⟩
        case measure => simp [intOf]
    · have hr8 : k1 % 8 < 8 := Nat.mod_lt _ (by omega)
      obtain ⟨s, hs, hcs⟩ := g5 _ hr8
      have r1 : ((k1 : Int)).tmod 8 = ((k1 % 8 : Nat) : Int) := by rw [Int.tmod_eq_emod_of_nonneg (Int.natCast_nonneg _)]; rfl
      have r2 : IntKind.u8.wrap ((k1 % 8 : Nat) : Int) = ((k1 % 8 : Nat) : Int) := wrap_u8 (by omega)
      have HGS := Lib.hid hs
      have HGI := Lib.hid hgi
      obtain ⟨q1, q2, q3⟩ := prod_facts hgi hs
      generalize k1 % 8 = r at *
      have hri : (r : Int) < 8 := by omega
      have hcj := g2.2.1
      obtain ⟨v0, v1, v2⟩ := g6
      have ff := gf 1 (by omega)
      have HG := Lib.hid hgm
      have HQ : Hid (a * b * c * s ≤ 256 → GI 2 a s c) := fun h => hgi.set1 hs h
      clear hs hgi hgm g2 g4 g5 hr8
      generalize a * b * c * s = y3 at *
      generalize a * b * c = y2 at *
      generalize a * b = y1 at *
      by_cases hp : y3 ≤ 256
      · have hpi : (y3 : Int) ≤ 256 := by omega
        go_wp2_with fail
        go_roundw
        case rel => exact ⟨2, a, s, c, rfl, by omega, HQ.out hp, HG.out.set1 s⟩
        case measure => simp [intOf]
      · have hpi : ¬ (y3 : Int) ≤ 256 := by omega
        go_wp2_with fail
        go_roundw
        case rel => exact ⟨2, a, b, c, rfl, by omega, HGI.out.next, HG.out⟩
        case measure => simp [intOf]
    · have hr8 : k2 % 8 < 8 := Nat.mod_lt _ (by omega)
      obtain ⟨s, hs, hcs⟩ := g5 _ hr8
      have r1 : ((k2 : Int)).tmod 8 = ((k2 % 8 : Nat) : Int) := by rw [Int.tmod_eq_emod_of_nonneg (Int.natCast_nonneg _)]; rfl
      have r2 : IntKind.u8.wrap ((k2 % 8 : Nat) : Int) = ((k2 % 8 : Nat) : Int) := wrap_u8 (by omega)
      have HGS := Lib.hid hs
      have HGI := Lib.hid hgi
      obtain ⟨q1, q2, q3⟩ := prod_facts hgi hs
      generalize k2 % 8 = r at *
      have hri : (r : Int) < 8 := by omega
      have hcj := g2.2.2
      obtain ⟨v0, v1, v2⟩ := g6
      have ff := gf 2 (by omega)
      have HG := Lib.hid hgm
      have HQ : Hid (a * b * c * s ≤ 256 → GI 3 a b s) := fun h => hgi.set2 hs h
      clear hs hgi hgm g2 g4 g5 hr8
      generalize a * b * c * s = y3 at *
      generalize a * b * c = y2 at *
      generalize a * b = y1 at *
      by_cases hp : y3 ≤ 256
      · have hpi : (y3 : Int) ≤ 256 := by omega
        go_wp2_with fail
        go_roundw
        case rel => exact ⟨3, a, b, s, rfl, by omega, HQ.out hp, HG.out.set2 s⟩
        case measure => simp [intOf]
      · have hpi : ¬ (y3 : Int) ≤ 256 := by omega
        go_wp2_with fail
        go_roundw
        case rel => exact ⟨3, a, b, c, rfl, by omega, HGI.out.next, HG.out⟩
        case measure => simp [intOf]
    · have HG := Lib.hid hgm
      have HGI := Lib.hid hgi
      have HS := Lib.hid hgi.s3
      have hL := hgi.2.2.2.1
      have hL2 : a * b * c ≤ 262144 := by omega
      obtain ⟨q1, q2, _⟩ := prod_facts hgi gs_one
      obtain ⟨v0, v1, v2⟩ := g6
      clear g2 g4 g5 hgi hgm gf gb
      generalize hLL : a * b * c = L at *
      have hmk : ∀ W : World, (Instr.makeSlice 24 (.int .i64 (L : Int)) (.int .i64 (L : Int))).run Tryz.prog W = .ok (.slice (some ⟨W.heap.size, 0, none⟩) L L) (W.alloc (.cells (madeCells #[.int .i64 0] L) 3)) := by
        obtain ⟨j0, hj, hj0, hj1, hj2⟩ := info_parts' info_i
        intro W
        have := run_make (P := Tryz.prog) W 24 3 j0 _ Tryz.underlying24 hj hj0 .i64 .i64 L L (by omega) (by omega) (by rw [hj2]; omega) (by omega)
        rw [hj1, Nat.mul_one] at this
        exact this
      have hp6l : p6 < wr.heap.size := by simpa using World.block_lt_of_cell? _ _ v0
      have hp6m : p6 < wr.heap.size + 1 := by omega
      generalize a * b = y1 at *
      go_wp2_with fail
      go_cut [9] from 37 to 47 (fun s9 wx => MadeC wr wx a b c L s9)
      case first =>
        go_region
        · go_wp2_with fail
          go_meet
          first | exact made1 _ _ _ _ _ hL2 | exact made2 _ _ _ _ _ hL2
        · go_wp2_with fail
          go_meet
          first | exact made1 _ _ _ _ _ hL2 | exact made2 _ _ _ _ _ hL2
      case rest =>
        obtain ⟨p9, gc, rfl, hcv, hic, hb9, hlp, hlg, hne⟩ := hcut
        have HCV := Lib.hid hcv
        have HIC := Lib.hid hic
        have HB9 := Lib.hid hb9
        obtain ⟨g2, g4, g5, g6, gf, gb, gn⟩ := HG.out
        have HR4 := Lib.hid (g4.bel hb9)
        have HBW := Lib.hid (gb.trans hb9)
        have hp4l : p4 < wr.heap.size := by simpa using World.block_lt_of_cell? _ _ (g4 0 (by omega)).1
        have HPG : Hid (p4 ≠ gc ∧ p9 ≠ gc ∧ p9 ≠ p4 ∧ w.heap.size ≤ gc ∧ w.heap.size ≤ p4) := by
          have := HP.out
          have h2 := HP2.out
          have h3 := gb.size
          exact ⟨by omega, hne, by omega, by omega, by omega⟩
        obtain ⟨x0, x1, x2, x3⟩ := hcv
        clear hic hb9 g2 g4 g5 g6 gf gb gn hmk v0 v1 v2 q1 q2 hp6l hp6m hp4l HG HP
        go_wp2_with fail
        clear x0 x1 x2 x3
        go_loopw [51] (fun i wq => ∃ (k : Nat) (cs : List Int), k ≤ L ∧ i = .int .i64 k ∧ cs.length = L ∧ (∀ i, (cs.getD i 0).natAbs ≤ 32768) ∧ CVar wq p9 a b c (some ⟨gc, 0, none⟩) L L ∧ IArr wq gc L cs ∧ R4 wq p4 ∧ Bel w wq) (fun i _ => L - (intOf i).toNat)
        case atStart => exact ⟨0, List.replicate L 0, Nat.zero_le _, rfl, List.length_replicate, fun i => by rw [getD_rep]; decide, HCV.out, HIC.out, HR4.out, HBW.out⟩
        case round =>
          clear HCV HIC HR4 HBW
          obtain ⟨k, cs, hk, rfl, hlen, hsm, hcv, hic, hr4, hbw⟩ := hrel
          have HLN := Lib.hid hlen
          have HSM := Lib.hid hsm
          have HCV := Lib.hid hcv
          have HIC := Lib.hid hic
          have HR4 := Lib.hid hr4
          have HBW := Lib.hid hbw
          by_cases hlt : k < L
          · have hki : (k : Int) < L := by omega
            by_cases hm : k < m
            · have hmi : (k : Int) < m := by omega
              obtain ⟨b', off, hao, hcell, hlo, hhi⟩ := HX.out k hm
              have hcv3 := hcv.2.2.2
              have hcu := hic.cell (i := k) (by rw [hlen]; exact hlt) 0
              have hfu := hic.frozen k
              have hcx := hbw.cellv hcell
              have hw := i16_wrap hlo hhi
              obtain ⟨x, hx⟩ : ∃ x, xs k = x := ⟨_, rfl⟩
              rw [hx] at hcx hw
              have HXB : Hid (x.natAbs ≤ 32768) := by unfold Hid; omega
              subst hao
              obtain ⟨wo, rfl⟩ : ∃ wo : World, wo = wr := ⟨_, rfl⟩
              clear hcv hic hr4 hbw hlen hsm hcell hlo hhi hx
              go_wp2_with fail
              have c0 : ∀ v : In wo, v.w.cell? ⟨p9, 3, none⟩ = some (.slice (some ⟨gc, 0, none⟩) L L) := In.cellv hcv3
              have c1 : ∀ v : In wo, v.w.cell? ⟨b', off + k, none⟩ = some (.int .i16 x) := In.cellv hcx
              have c2 : ∀ v : In wo, v.w.cell? ⟨gc, k, none⟩ = some (iV (cs.getD k 0)) := In.cellv hcu
              have c3 : ∀ v : In wo, v.w.frozen? ⟨gc, k, none⟩ = false := In.frozen hcu hfu
              refine wp_in_tail 9 (by kernel_rfl) (by kernel_rfl) ?_
              simp only [List.take_succ_cons, List.take_zero, List.drop_succ_cons, List.drop_zero]
              repeat (go_big_quiet_step (fail))
              refine wpQuiet_nil ?_
              intro vq
              have hb := vq.h
              go_wp2_with fail
              go_roundw
              case rel => exact ⟨k + 1, cs.set k x, by omega, by go_num, by rw [List.length_set]; exact HLN.out, small_set HSM.out k x HXB.out, (HCV.out.bel hb).far HPG.out.2.1 _, ((HIC.out.bel hb).store k x), (HR4.out.bel hb).far HPG.out.1 _, (HBW.out.trans hb).setCell HPG.out.2.2.2.1 _⟩
              case measure => simp [intOf]; omega
            · have hmi : ¬ (k : Int) < m := by omega
              clear hcv hic hr4 hbw hlen hsm
              go_wp2_with fail
              go_roundw
              case rel => exact ⟨k + 1, cs, by omega, by go_num, HLN.out, HSM.out, HCV.out, HIC.out, HR4.out, HBW.out⟩
              case measure => simp [intOf]; omega
          · have hkl : k = L := by omega
            obtain ⟨z0, z1, z2, z3⟩ := hcv
            obtain ⟨g0, f0⟩ := hr4 0 (by omega)
            obtain ⟨g1, f1⟩ := hr4 1 (by omega)
            obtain ⟨g2, f2⟩ := hr4 2 (by omega)
            obtain ⟨g3, f3⟩ := hr4 3 (by omega)
            obtain ⟨hpg, _, _, hwg, hwp⟩ := HPG.out
            have HSET := Lib.hid (cvar_set hr4 a b c (some ⟨gc, 0, none⟩) L L)
            have HBF := Lib.hid ((((hbw.setCell (p := ⟨p4, 0, none⟩) hwp (.int .i64 a)).setCell (p := ⟨p4, 1, none⟩) hwp (.int .i64 b)).setCell (p := ⟨p4, 2, none⟩) hwp (.int .i64 c)).setCell (p := ⟨p4, 3, none⟩) hwp (.slice (some ⟨gc, 0, none⟩) L L))
            have HIF := Lib.hid ((((hic.setOther (p := ⟨p4, 0, none⟩) hpg (.int .i64 a)).setOther (p := ⟨p4, 1, none⟩) hpg (.int .i64 b)).setOther (p := ⟨p4, 2, none⟩) hpg (.int .i64 c)).setOther (p := ⟨p4, 3, none⟩) hpg (.slice (some ⟨gc, 0, none⟩) L L))
            clear hr4 hic hbw hlen hsm
            go_wp2_with fail
            obtain ⟨r0, r1, r2, r3⟩ := HSET.out
            refine bodyPost_ret (v := countV a b c (some ⟨gc, 0, none⟩) L L) (by simp [results, Tryz.results17, go_sem, r0, r1, r2, r3]) rfl ⟨⟨a, b, c, L, gc, cs, rfl, HS.out, hL, HLN.out, HSM.out, hwg, HIF.out⟩, HBF.out⟩

end Go.Proofs.YtehiabiahipkhaaGreat
