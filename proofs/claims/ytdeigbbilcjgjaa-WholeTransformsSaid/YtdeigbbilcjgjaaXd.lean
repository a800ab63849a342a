/-
  The walk of facetlaw20.FftExactly, given what the plain law says.
-/
import Derived.Test.YtdeigbbilcjgjaaXc
namespace Go.Proofs.Ytdeigbbilcjgjaa
open Go.RowKit
set_option linter.unusedVariables false
set_option linter.unusedSimpArgs false

/-- What makes the law answer true for a grid g. -/
structure Exact (n0 n1 n2 L : Nat) (g va vb vc vd : List C) : Prop where
  ha : boxP (lineP 9 false) n0 n1 n2 g = some va
  hb : boxP undoneP n0 n1 n2 va = some vb
  hc : boxP undoneP n0 n1 n2 g = some vc
  hd : boxP (lineP 9 false) n0 n1 n2 vc = some vd
  eb : ∀ i, i < L → cEq (vb.getD i (0, 0)) (g.getD i (0, 0)) = true
  ed : ∀ i, i < L → cEq (vd.getD i (0, 0)) (g.getD i (0, 0)) = true
  ex : ∀ i, i < L → ∃ x, directP ((i / (n1 * n2) : Nat) : Int) ((i / n2 % n1 : Nat) : Int) ((i % n2 : Nat) : Int) n0 n1 n2 g = some x ∧ cEq x (va.getD i (0, 0)) = true

theorem boxP_length {f : List C → Option (List C)} {n0 n1 n2 : Nat} {xs ys : List C} (h : boxP f n0 n1 n2 xs = some ys) : ys.length = xs.length := by
  unfold boxP at h
  obtain ⟨a, ha, h⟩ := Option.bind_eq_some_iff.1 h
  obtain ⟨b, hb, h⟩ := Option.bind_eq_some_iff.1 h
  rw [alongP_length h, alongP_length hb, alongP_length ha]

/-- A grid's variable holds these sides and this slice. -/
def GVar (W : World) (p n0 n1 n2 g L c : Nat) : Prop :=
  W.cell? ⟨p, 0, none⟩ = some (.int .i64 n0) ∧ W.cell? ⟨p, 1, none⟩ = some (.int .i64 n1) ∧ W.cell? ⟨p, 2, none⟩ = some (.int .i64 n2) ∧ W.cell? ⟨p, 3, none⟩ = some (.slice (some ⟨g, 0, none⟩) L c)
theorem GVar.bel {W W' : World} {p n0 n1 n2 g L c : Nat} (h : GVar W p n0 n1 n2 g L c) (hb : Bel W W') : GVar W' p n0 n1 n2 g L c :=
  ⟨hb.cellv h.1, hb.cellv h.2.1, hb.cellv h.2.2.1, hb.cellv h.2.2.2⟩
theorem gvar_new (W : World) (n0 n1 n2 g L c : Nat) (T : TypeId) : GVar (W.alloc (.cells #[.int .i64 n0, .int .i64 n1, .int .i64 n2, .slice (some ⟨g, 0, none⟩) L c] T)) W.heap.size n0 n1 n2 g L c :=
  ⟨cell_new _ _ _ 0, cell_new _ _ _ 1, cell_new _ _ _ 2, cell_new _ _ _ 3⟩
theorem Arr.at0 {T : TypeId} {f : C → Value} {W : World} {g c L : Nat} {xs : List C} (h : Arr T f W g c xs) (hl : xs.length = L) : ∀ i, i < L → W.cell? ⟨g, 0 + i, none⟩ = some (f (xs.getD i (0, 0))) := by
  intro i hi; rw [Nat.zero_add]; exact h.cell (by omega) _

set_option maxHeartbeats 8000000 in
theorem exactly_walk (b off cap n0 n1 n2 L : Nat) (k0 k1 k2 : Int) (vs : List (Int × Int)) (va vb vc vd : List C) (w : World)
    (e0 : (k0 % 3 = 0 ∧ n0 = 1) ∨ (k0 % 3 = 1 ∧ n0 = 2) ∨ (k0 % 3 = 2 ∧ n0 = 4)) (e1 : (k1 % 3 = 0 ∧ n1 = 1) ∨ (k1 % 3 = 1 ∧ n1 = 2) ∨ (k1 % 3 = 2 ∧ n1 = 4)) (e2 : (k2 % 3 = 0 ∧ n2 = 1) ∨ (k2 % 3 = 1 ∧ n2 = 2) ∨ (k2 % 3 = 2 ∧ n2 = 4))
    (c0 : 0 ≤ k0) (c1 : 0 ≤ k1) (c2 : 0 ≤ k2) (hL : n0 * n1 * n2 = L) (hs : Sides n0 n1 n2) (ao : Option Addr) (m : Nat) (hm : vs.length = m) (hmm : m ≤ 281474976710656)
    (hx : ∀ i, i < m → ao = some ⟨b, off, none⟩ ∧ w.cell? ⟨b, off + i * 2, none⟩ = some (.int .i16 (vs.getD i (0, 0)).1) ∧ w.cell? ⟨b, off + i * 2 + 1, none⟩ = some (.int .i16 (vs.getD i (0, 0)).2))
    (H : Exact n0 n1 n2 L (wholeP L vs) va vb vc vd) :
    Calls Try.prog 3 #[.agg #[.int .u8 k0, .int .u8 k1, .int .u8 k2], .slice ao m cap] w fun e w' => e = .returned (.bool true) ∧ Bel w w' := by
  have HG := Lib.hid (fun W (hW : Bel w W) => whole20_any b off cap n0 n1 n2 L k0 k1 k2 vs W e0 e1 e2 c0 c1 c2 hL ao m hm hmm (fun i hi => ⟨(hx i hi).1, hW.cellv (hx i hi).2.1, hW.cellv (hx i hi).2.2⟩))
  have HH := Lib.hid H
  have HL : Hid (n0 * n1 * n2 = L) := hL
  have HS := Lib.hid hs
  have hlw := Lib.hid (wholeP_length L vs)
  have hn0 : n0 ≤ 4 := by omega
  have hn1 : n1 ≤ 4 := by omega
  have hn2 : n2 ≤ 4 := by omega
  have hp1 : n0 * n1 ≤ 4 * 4 := Nat.mul_le_mul hn0 hn1
  have hp2 : n0 * n1 * n2 ≤ 4 * 4 * 4 := Nat.mul_le_mul hp1 hn2
  have hLs : L ≤ 64 := by omega
  clear e0 e1 e2 hx hm H hL hs hp1 hp2 c0 c1 c2
  go_enter Try.func3, Try.ntmps3
  go_wp2_with fail
  refine (awake20_any _).mono ?_
  rintro e w1 ⟨rfl, hb1⟩
  have q0 := hb1.cellv (p := ⟨w.heap.size, 0, none⟩) (cell_new w _ _ 0)
  have q1 := hb1.cellv (p := ⟨w.heap.size, 1, none⟩) (cell_new w _ _ 1)
  have q2 := hb1.cellv (p := ⟨w.heap.size, 2, none⟩) (cell_new w _ _ 2)
  have B1 : Hid (Bel w w1) := ((Bel.refl w).alloc _).trans hb1
  clear hb1
  simp only [List.getElem_toArray, List.getElem_cons_zero, List.getElem_cons_succ] at q0 q1 q2
  go_wp2_with fail
  clear q0 q1 q2
  refine (HG.out w1 B1.out).mono ?_
  rintro e w2 ⟨⟨g, c, rfl, hg, ha⟩, hb2⟩
  have B2 : Hid (Bel w w2) := B1.out.trans hb2
  have G5 : Hid (GVar (w2.alloc (.cells #[.int .i64 n0, .int .i64 n1, .int .i64 n2, .slice (some ⟨g, 0, none⟩) L c] 29)) w2.heap.size n0 n1 n2 g L c) := gvar_new _ _ _ _ _ _ _ _
  have A5 : Hid (CArr (w2.alloc (.cells #[.int .i64 n0, .int .i64 n1, .int .i64 n2, .slice (some ⟨g, 0, none⟩) L c] 29)) g c (wholeP L vs)) := ha.alloc _
  clear ha hb2 hg B1
  go_wp2_with fail
  have B2' : Hid (Bel w (w2.alloc (.cells #[.int .i64 n0, .int .i64 n1, .int .i64 n2, .slice (some ⟨g, 0, none⟩) L c] 29))) := B2.out.alloc _
  generalize hp5 : w2.heap.size = p5 at G5 ⊢
  generalize World.alloc _ _ = W2 at G5 A5 B2' ⊢
  clear hp5 B2
  refine (Box_any g 0 c n0 n1 n2 L (wholeP L vs) va W2 HS.out HL.out hlw.out HH.out.ha (A5.out.at0 hlw.out)).mono ?_
  rintro e w3 ⟨⟨ga, ca, rfl, hga, ha⟩, hb3⟩
  have hla := Lib.hid ((boxP_length HH.out.ha).trans hlw.out)
  have G5a := Lib.hid ((G5.out.bel hb3).bel ((Bel.refl w3).alloc (.cells #[.int .i64 n0, .int .i64 n1, .int .i64 n2, .slice (some ⟨ga, 0, none⟩) L ca] 29)))
  have A5a := Lib.hid ((A5.out.bel hb3).alloc (.cells #[.int .i64 n0, .int .i64 n1, .int .i64 n2, .slice (some ⟨ga, 0, none⟩) L ca] 29))
  have G6 : Hid (GVar (w3.alloc (.cells #[.int .i64 n0, .int .i64 n1, .int .i64 n2, .slice (some ⟨ga, 0, none⟩) L ca] 29)) w3.heap.size n0 n1 n2 ga L ca) := gvar_new _ _ _ _ _ _ _ _
  have A6 : Hid (CArr (w3.alloc (.cells #[.int .i64 n0, .int .i64 n1, .int .i64 n2, .slice (some ⟨ga, 0, none⟩) L ca] 29)) ga ca va) := ha.alloc _
  have B3 : Hid (Bel w (w3.alloc (.cells #[.int .i64 n0, .int .i64 n1, .int .i64 n2, .slice (some ⟨ga, 0, none⟩) L ca] 29))) := (B2'.out.trans hb3).alloc _
  clear ha hb3 hga G5 A5 B2'
  go_wp2_with fail
  generalize hp6 : w3.heap.size = p6 at G6 ⊢
  generalize World.alloc _ _ = W3 at G5a A5a G6 A6 B3 ⊢
  clear hp6
  refine (Unbox_any ga 0 ca n0 n1 n2 L va vb W3 HS.out HL.out hla.out HH.out.hb (A6.out.at0 hla.out)).mono ?_
  rintro e w4 ⟨⟨gb, cb, rfl, hgb, ha⟩, hb4⟩
  have hlb := Lib.hid ((boxP_length HH.out.hb).trans hla.out)
  have cells4 := (G5a.out.bel hb4).bel ((Bel.refl w4).alloc (.cells #[.int .i64 n0, .int .i64 n1, .int .i64 n2, .slice (some ⟨gb, 0, none⟩) L cb] 29))
  have G5b := Lib.hid cells4
  have A5b := Lib.hid ((A5a.out.bel hb4).alloc (.cells #[.int .i64 n0, .int .i64 n1, .int .i64 n2, .slice (some ⟨gb, 0, none⟩) L cb] 29))
  have G6b := Lib.hid ((G6.out.bel hb4).bel ((Bel.refl w4).alloc (.cells #[.int .i64 n0, .int .i64 n1, .int .i64 n2, .slice (some ⟨gb, 0, none⟩) L cb] 29)))
  have A6b := Lib.hid ((A6.out.bel hb4).alloc (.cells #[.int .i64 n0, .int .i64 n1, .int .i64 n2, .slice (some ⟨gb, 0, none⟩) L cb] 29))
  have G8 : Hid (GVar (w4.alloc (.cells #[.int .i64 n0, .int .i64 n1, .int .i64 n2, .slice (some ⟨gb, 0, none⟩) L cb] 29)) w4.heap.size n0 n1 n2 gb L cb) := gvar_new _ _ _ _ _ _ _ _
  have A8 : Hid (CArr (w4.alloc (.cells #[.int .i64 n0, .int .i64 n1, .int .i64 n2, .slice (some ⟨gb, 0, none⟩) L cb] 29)) gb cb vb) := ha.alloc _
  have B4 : Hid (Bel w (w4.alloc (.cells #[.int .i64 n0, .int .i64 n1, .int .i64 n2, .slice (some ⟨gb, 0, none⟩) L cb] 29))) := (B3.out.trans hb4).alloc _
  obtain ⟨x0, x1, x2, x3⟩ := cells4
  clear ha hb4 hgb G5a A5a G6 A6 B3
  go_wp2_with fail
  clear x0 x1 x2 x3
  generalize hp8 : w4.heap.size = p8 at G8 ⊢
  generalize World.alloc _ _ = W4 at G5b A5b G6b A6b G8 A8 B4 ⊢
  clear hp8
  refine (Unbox_any g 0 c n0 n1 n2 L (wholeP L vs) vc W4 HS.out HL.out hlw.out HH.out.hc (A5b.out.at0 hlw.out)).mono ?_
  rintro e w5 ⟨⟨gc, cc, rfl, hgc, ha⟩, hb5⟩
  have hlc := Lib.hid ((boxP_length HH.out.hc).trans hlw.out)
  obtain ⟨N, hN⟩ : ∃ N : Obj, N = .cells #[.int .i64 n0, .int .i64 n1, .int .i64 n2, .slice (some ⟨gc, 0, none⟩) L cc] 29 := ⟨_, rfl⟩
  have st := hb5.trans ((Bel.refl w5).alloc N)
  have G5c := Lib.hid (G5b.out.bel st)
  have A5c := Lib.hid (A5b.out.bel st)
  have G6c := Lib.hid (G6b.out.bel st)
  have A6c := Lib.hid (A6b.out.bel st)
  have G8c := Lib.hid (G8.out.bel st)
  have A8c := Lib.hid (A8.out.bel st)
  have A10 : Hid (CArr (w5.alloc N) gc cc vc) := ha.alloc _
  have B5 : Hid (Bel w (w5.alloc N)) := B4.out.trans st
  subst hN
  have G10 : Hid (GVar (w5.alloc (.cells #[.int .i64 n0, .int .i64 n1, .int .i64 n2, .slice (some ⟨gc, 0, none⟩) L cc] 29)) w5.heap.size n0 n1 n2 gc L cc) := gvar_new _ _ _ _ _ _ _ _
  clear ha hb5 hgc G5b A5b G6b A6b G8 A8 B4 st
  go_wp2_with fail
  generalize hp10 : w5.heap.size = p10 at G10 ⊢
  generalize World.alloc _ _ = W5 at G5c A5c G6c A6c G8c A8c G10 A10 B5 ⊢
  clear hp10
  refine (Box_any gc 0 cc n0 n1 n2 L vc vd W5 HS.out HL.out hlc.out HH.out.hd (A10.out.at0 hlc.out)).mono ?_
  rintro e w6 ⟨⟨gd, cd, rfl, hgd, ha⟩, hb6⟩
  have hld := Lib.hid ((boxP_length HH.out.hd).trans hlc.out)
  obtain ⟨N, hN⟩ : ∃ N : Obj, N = .cells #[.int .i64 n0, .int .i64 n1, .int .i64 n2, .slice (some ⟨gd, 0, none⟩) L cd] 29 := ⟨_, rfl⟩
  have st := hb6.trans ((Bel.refl w6).alloc N)
  have g5 := G5c.out.bel st
  have G5d := Lib.hid g5
  have A5d := Lib.hid (A5c.out.bel st)
  have g6 := G6c.out.bel st
  have G6d := Lib.hid g6
  have A6d := Lib.hid (A6c.out.bel st)
  have g8 := G8c.out.bel st
  have A8d := Lib.hid (A8c.out.bel st)
  have A12 : Hid (CArr (w6.alloc N) gd cd vd) := ha.alloc _
  have B6 : Hid (Bel w (w6.alloc N)) := B5.out.trans st
  subst hN
  have g12 : GVar (w6.alloc (.cells #[.int .i64 n0, .int .i64 n1, .int .i64 n2, .slice (some ⟨gd, 0, none⟩) L cd] 29)) w6.heap.size n0 n1 n2 gd L cd := gvar_new _ _ _ _ _ _ _ _
  obtain ⟨x0, x1, x2, x3⟩ := g5
  obtain ⟨y0, y1, y2, y3⟩ := g8
  obtain ⟨z0, z1, z2, z3⟩ := g12
  clear ha hb6 hgd G5c A5c G6c A6c G8c A8c G10 A10 B5 st g6
  go_wp2_with fail
  generalize hp12 : w6.heap.size = p12 at z0 z1 z2 z3 ⊢
  generalize World.alloc _ _ = W6 at G5d A5d G6d A6d A8d A12 B6 x0 x1 x2 x3 y0 y1 y2 y3 z0 z1 z2 z3 ⊢
  clear hp12 y0 y1 y2 y3
  refine (equal20_yes gb 0 cb g 0 c n0 n1 n2 L vb (wholeP L vs) W6 (by omega) (A8d.out.at0 hlb.out) (A5d.out.at0 hlw.out) HH.out.eb).mono ?_
  rintro e w7 ⟨rfl, hb7⟩
  have A12' := Lib.hid (A12.out.bel hb7)
  have G5e := Lib.hid (G5d.out.bel hb7)
  have A5e := Lib.hid (A5d.out.bel hb7)
  have G6e := Lib.hid (G6d.out.bel hb7)
  have A6e := Lib.hid (A6d.out.bel hb7)
  have B7 := Lib.hid (B6.out.trans hb7)
  have x0' := hb7.cellv x0
  have x1' := hb7.cellv x1
  have x2' := hb7.cellv x2
  have x3' := hb7.cellv x3
  have z0' := hb7.cellv z0
  have z1' := hb7.cellv z1
  have z2' := hb7.cellv z2
  have z3' := hb7.cellv z3
  clear x0 x1 x2 x3 z0 z1 z2 z3 A12 G5d A5d G6d A6d A8d B6 hb7
  go_wp2_with fail
  clear x0' x1' x2' x3' z0' z1' z2' z3'
  refine (equal20_yes gd 0 cd g 0 c n0 n1 n2 L vd (wholeP L vs) w7 (by omega) (A12'.out.at0 hld.out) (A5e.out.at0 hlw.out) HH.out.ed).mono ?_
  rintro e w8 ⟨rfl, hb8⟩
  have G5 := Lib.hid (G5e.out.bel hb8)
  have A5 := Lib.hid (A5e.out.bel hb8)
  have G6 := Lib.hid (G6e.out.bel hb8)
  have A6 := Lib.hid (A6e.out.bel hb8)
  have B8 := Lib.hid (B7.out.trans hb8)
  have y3 := G6.out.2.2.2
  clear hb8 A12' G5e A5e G6e A6e B7
  go_wp2_with fail
  clear y3
  go_loopw [72] (fun i wr => ∃ j : Nat, j ≤ L ∧ i = .int .i64 j ∧ Bel w8 wr) (fun i _ => L - (intOf i).toNat)
  case atStart => exact ⟨0, Nat.zero_le _, rfl, Bel.refl w8⟩
  case round =>
    obtain ⟨j, hj, rfl, hbw⟩ := hrel
    by_cases hlt : j < L
    · obtain ⟨x, hdx, hex⟩ := HH.out.ex j hlt
      rw [Int.natCast_ediv, Int.natCast_mul, Int.natCast_emod, Int.natCast_ediv, Int.natCast_emod] at hdx
      have HDX := Lib.hid hdx
      have hcell := (A6.out.bel hbw).cell (i := j) (by rw [hla.out]; exact hlt) (0, 0)
      generalize va.getD j (0, 0) = y at hex hcell
      have hop := fun t w => cEq_run hex t w
      have HB8 := Lib.hid (B8.out.trans hbw)
      have HBW := Lib.hid hbw
      obtain ⟨a0, a1, a2, a3⟩ := G5.out.bel hbw
      obtain ⟨b0, b1, b2, b3⟩ := G6.out.bel hbw
      clear hdx hex hbw
      obtain ⟨wo, rfl⟩ : ∃ wo : World, wo = wr := ⟨_, rfl⟩
      have an1 := HS.out.a1
      have an2 := HS.out.a2
      have z1 : ¬ n1 = 0 := by omega
      have z2 : ¬ n2 = 0 := by omega
      have hp12 : n1 * n2 ≤ 4 * 4 := Nat.mul_le_mul hn1 hn2
      have hp0 : 1 ≤ n1 * n2 := Nat.mul_pos an1 an2
      have q1 : IntKind.i64.wrap ((n1 : Int) * n2) = (n1 : Int) * n2 := IntWalk.i64_in _ (by rw [← Int.natCast_mul]; omega)
      have d0 : (0 : Int) ≤ (j : Int) / ((n1 : Int) * n2) := Int.ediv_nonneg (by omega) (by rw [← Int.natCast_mul]; omega)
      have d1 : (j : Int) / ((n1 : Int) * n2) ≤ j := Int.ediv_le_self _ (by omega)
      have d2 : (0 : Int) ≤ (j : Int) / n2 := Int.ediv_nonneg (by omega) (by omega)
      have d3 : (j : Int) / n2 ≤ j := Int.ediv_le_self _ (by omega)
      have d4 : (0 : Int) ≤ (j : Int) / n2 % n1 := Int.emod_nonneg _ (by omega)
      have d5 : (j : Int) / n2 % n1 < n1 := Int.emod_lt_of_pos _ (by omega)
      have d6 : (0 : Int) ≤ (j : Int) % n2 := Int.emod_nonneg _ (by omega)
      have d7 : (j : Int) % n2 < n2 := Int.emod_lt_of_pos _ (by omega)
      have q2 : (j : Int).tdiv ((n1 : Int) * n2) = (j : Int) / ((n1 : Int) * n2) := Int.tdiv_eq_ediv_of_nonneg (by omega)
      have q3 : IntKind.i64.wrap ((j : Int) / ((n1 : Int) * n2)) = (j : Int) / ((n1 : Int) * n2) := IntWalk.i64_in _ (by omega)
      have q4 : (j : Int).tdiv n2 = (j : Int) / n2 := Int.tdiv_eq_ediv_of_nonneg (by omega)
      have q5 : IntKind.i64.wrap ((j : Int) / n2) = (j : Int) / n2 := IntWalk.i64_in _ (by omega)
      have q6 : ((j : Int) / n2).tmod n1 = (j : Int) / n2 % n1 := Int.tmod_eq_emod_of_nonneg (by omega)
      have q7 : (j : Int).tmod n2 = (j : Int) % n2 := Int.tmod_eq_emod_of_nonneg (by omega)
      have q8 : IntKind.i64.wrap ((j : Int) / n2 % n1) = (j : Int) / n2 % n1 := IntWalk.i64_in _ (by omega)
      have q9 : IntKind.i64.wrap ((j : Int) % n2) = (j : Int) % n2 := IntWalk.i64_in _ (by omega)
      have zz : ¬ ((n1 : Int) * n2 = 0) := by rw [← Int.natCast_mul]; omega
      have hne : ¬ wo.heap.size = p5 := by have := World.block_lt_of_cell? _ _ a0; simp at this; omega
      go_wp2_with fail
      go_region_held3 (fun w' => w'.cell? ⟨p5, 0, none⟩ = some (.int .i64 n0) ∧ w'.cell? ⟨p5, 1, none⟩ = some (.int .i64 n1) ∧ w'.cell? ⟨p5, 2, none⟩ = some (.int .i64 n2)) (go_keep) (fail)
      clear q1 q2 q3 q4 q5 q6 q7 q8 q9
      have e0 : Bel wo (wo.alloc (.cells #[.int .i64 ((j : Int) / ((n1 : Int) * n2)), .int .i64 ((j : Int) / n2 % n1), .int .i64 ((j : Int) % n2)] 26)).drew := ((Bel.refl wo).alloc _).drew
      have f0 : (wo.alloc (.cells #[.int .i64 ((j : Int) / ((n1 : Int) * n2)), .int .i64 ((j : Int) / n2 % n1), .int .i64 ((j : Int) % n2)] 26)).drew.cell? ⟨wo.heap.size, 0, none⟩ = some (.int .i64 ((j : Int) / ((n1 : Int) * n2))) := cell_new _ _ _ 0
      have f1 : (wo.alloc (.cells #[.int .i64 ((j : Int) / ((n1 : Int) * n2)), .int .i64 ((j : Int) / n2 % n1), .int .i64 ((j : Int) % n2)] 26)).drew.cell? ⟨wo.heap.size, 1, none⟩ = some (.int .i64 ((j : Int) / n2 % n1)) := cell_new _ _ _ 1
      have f2 : (wo.alloc (.cells #[.int .i64 ((j : Int) / ((n1 : Int) * n2)), .int .i64 ((j : Int) / n2 % n1), .int .i64 ((j : Int) % n2)] 26)).drew.cell? ⟨wo.heap.size, 2, none⟩ = some (.int .i64 ((j : Int) % n2)) := cell_new _ _ _ 2
      generalize World.drew _ = X at e0 f0 f1 f2 ⊢
      have a0' := e0.cellv a0
      have a1' := e0.cellv a1
      have a2' := e0.cellv a2
      have a3' := e0.cellv a3
      have b3' := e0.cellv b3
      have hcell' := e0.cellv hcell
      have HBX := Lib.hid (HBW.out.trans e0)
      have HAX := Lib.hid ((A5.out.bel HBW.out).bel e0)
      clear a0 a1 a2 a3 b0 b1 b2 b3 hcell e0 hne
      generalize wo.heap.size = p15 at f0 f1 f2 ⊢
      go_wp2_with fail
      clear a0' a1' a2' a3' f0 f1 f2
      refine (Direct_any g 0 c n0 n1 n2 L _ _ _ (wholeP L vs) x X HS.out HL.out hlw.out (by omega) (by omega) (by omega) (by omega) (by omega) (by omega) HDX.out (HAX.out.at0 hlw.out)).mono ?_
      rintro e w9 ⟨rfl, hb9⟩
      have b3'' := hb9.cellv b3'
      have hcell'' := hb9.cellv hcell'
      have HB9 := Lib.hid (HBX.out.trans hb9)
      clear hb9 HBX HAX b3' hcell'
      go_wp2_with fail
      go_roundw
      case rel => exact ⟨j + 1, by omega, by go_num, HB9.out⟩
      case measure => simp [intOf]; omega
    · have : j = L := by omega
      subst this
      have HB8 := Lib.hid (B8.out.trans hbw)
      clear hbw
      go_wp2
      go_ret
      exact ⟨rfl, HB8.out⟩

end Go.Proofs.Ytdeigbbilcjgjaa
