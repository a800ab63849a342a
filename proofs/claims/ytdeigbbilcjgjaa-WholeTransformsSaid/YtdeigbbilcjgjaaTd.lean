/-
  The walk of facettop.WholeTransforms, given what the plain law says.
-/
import Derived.Test.YtdeigbbilcjgjaaTc
import Derived.Test.YtdeigbbilcjgjaaXd
import Derived.Deep.Cut
import Derived.Deep.CutRange
namespace Go.Proofs.Ytdeigbbilcjgjaa
open Go.RowKit
set_option linter.unusedVariables false
set_option linter.unusedSimpArgs false

theorem two_line : lineP 9 false [(4607182418800017408, 0), (4607182418800017408, 0)] = some [(4611686018427387904, 0), (0, 0)] := by kernel_rfl

theorem below_drewN {a w : World} (h : Bel a w) (n : Nat) : Bel a (w.drewN n) := h.trans ⟨rfl, rfl, rfl, Nat.le_refl _, fun _ _ => rfl⟩

/-- Three cells that hold whole numbers. -/
def N3 (W : World) (k : IntKind) (p : Nat) (a b c : Nat) : Prop :=
  W.cell? ⟨p, 0, none⟩ = some (.int k a) ∧ W.cell? ⟨p, 1, none⟩ = some (.int k b) ∧ W.cell? ⟨p, 2, none⟩ = some (.int k c)
theorem N3.bel {W W' : World} {k : IntKind} {p a b c : Nat} (h : N3 W k p a b c) (hb : Bel W W') : N3 W' k p a b c :=
  ⟨hb.cellv h.1, hb.cellv h.2.1, hb.cellv h.2.2⟩
theorem n3_new (W : World) (k : IntKind) (a b c : Nat) (T : TypeId) : N3 (W.alloc (.cells #[.int k a, .int k b, .int k c] T)) k W.heap.size a b c :=
  ⟨cell_new _ _ _ 0, cell_new _ _ _ 1, cell_new _ _ _ 2⟩
theorem n3_new2 (W : World) (o : Obj) (k : IntKind) (a b c : Nat) (T : TypeId) : N3 ((W.alloc o).alloc (.cells #[.int k a, .int k b, .int k c] T)) k (W.heap.size + 1) a b c :=
  ⟨cell_new2 _ _ _ _ 0, cell_new2 _ _ _ _ 1, cell_new2 _ _ _ _ 2⟩

/-- A new vector's cells. -/
def Vz (W : World) (q : Nat) : Prop :=
  (W.cell? ⟨q, 0, none⟩ = some (.int .i64 0) ∧ W.cell? ⟨q, 1, none⟩ = some (.int .i64 0) ∧ W.cell? ⟨q, 2, none⟩ = some (.int .i64 0)) ∧ W.frozen? ⟨q, 0, none⟩ = false ∧ W.frozen? ⟨q, 1, none⟩ = false ∧ W.frozen? ⟨q, 2, none⟩ = false
theorem vz_new (W : World) (T : TypeId) : Vz (W.alloc (.cells #[.int .i64 0, .int .i64 0, .int .i64 0] T)) W.heap.size :=
  ⟨⟨cell_new _ _ _ 0, cell_new _ _ _ 1, cell_new _ _ _ 2⟩, frozen_new _ _ _ 0, frozen_new _ _ _ 1, frozen_new _ _ _ 2⟩
theorem vz_new' (W : World) (T : TypeId) : Vz (W.alloc (.cells #[.int .i64 0, .int .i64 0, .int .i64 0] T)).drew W.heap.size := vz_new W T
theorem Vz.bel {W W' : World} {q : Nat} (h : Vz W q) (hq : q < W.heap.size) (hb : Bel W W') : Vz W' q :=
  ⟨⟨hb.cellv h.1.1, hb.cellv h.1.2.1, hb.cellv h.1.2.2⟩, (hb.frozen hq).trans h.2.1, (hb.frozen hq).trans h.2.2.1, (hb.frozen hq).trans h.2.2.2⟩
theorem n3_set {W : World} {q : Nat} (h : Vz W q) (a b c : Value) (k : IntKind) (n0 n1 n2 : Nat) (ha : a = .int k n0) (hb : b = .int k n1) (hc : c = .int k n2) :
    N3 (((W.setCell ⟨q, 0, none⟩ a).setCell ⟨q, 1, none⟩ b).setCell ⟨q, 2, none⟩ c) k q n0 n1 n2 := by
  subst ha hb hc
  obtain ⟨⟨h0, h1, h2⟩, _⟩ := h
  have ne1 : (⟨q, 0, none⟩ : Addr) ≠ ⟨q, 1, none⟩ := by simp
  have ne2 : (⟨q, 0, none⟩ : Addr) ≠ ⟨q, 2, none⟩ := by simp
  have ne3 : (⟨q, 1, none⟩ : Addr) ≠ ⟨q, 2, none⟩ := by simp
  refine ⟨?_, ?_, ?_⟩ <;> go_simp
theorem Vz.lt {W : World} {q : Nat} (h : Vz W q) : q < W.heap.size := by simpa using World.block_lt_of_cell? _ _ h.1.1

/-- What the law's variables hold. -/
structure Top (W : World) (p5 p7 p8 p9 p11 h0 h1 h2 n0 n1 n2 L g c ga ca gb cb : Nat) (gr va vb : List C) : Prop where
  h5 : N3 W .u8 p5 h0 h1 h2
  n7 : N3 W .i64 p7 n0 n1 n2
  g8 : GVar W p8 n0 n1 n2 g L c
  g9 : GVar W p9 n0 n1 n2 ga L ca
  g11 : GVar W p11 n0 n1 n2 gb L cb
  a8 : CArr W g c gr
  a9 : CArr W ga ca va
  a11 : CArr W gb cb vb
theorem Top.bel {W W' : World} {p5 p7 p8 p9 p11 h0 h1 h2 n0 n1 n2 L g c ga ca gb cb : Nat} {gr va vb : List C} (h : Top W p5 p7 p8 p9 p11 h0 h1 h2 n0 n1 n2 L g c ga ca gb cb gr va vb) (hb : Bel W W') :
    Top W' p5 p7 p8 p9 p11 h0 h1 h2 n0 n1 n2 L g c ga ca gb cb gr va vb :=
  ⟨h.h5.bel hb, h.n7.bel hb, h.g8.bel hb, h.g9.bel hb, h.g11.bel hb, h.a8.bel hb, h.a9.bel hb, h.a11.bel hb⟩

set_option maxHeartbeats 8000000 in
set_option maxRecDepth 100000 in
theorem top12_walk (b off cap n0 n1 n2 L k0 k1 k2 h0 h1 h2 : Nat) (zs : Nat → Int) (va vb : List C) (tP : Nat → Nat) (lim : Nat) (w : World)
    (hk0 : k0 < 256) (hk1 : k1 < 256) (hk2 : k2 < 256) (hh0 : h0 < 256) (hh1 : h1 < 256) (hh2 : h2 < 256)
    (e0 : lenOf k0 12 = n0) (e1 : lenOf k1 6 = n1) (e2 : lenOf k2 8 = n2) (hn0 : n0 ≤ 12) (hn1 : n1 ≤ 12) (hn2 : n2 ≤ 12) (hL : n0 * n1 * n2 = L) (hL6 : L ≤ 576) (hs : Sides n0 n1 n2)
    (ao : Option Addr) (m : Nat) (hmm : m ≤ 281474976710656)
    (hx : ∀ i, i < m → ao = some ⟨b, off, none⟩ ∧ w.cell? ⟨b, off + i, none⟩ = some (.int .i16 (zs i)) ∧ -32768 ≤ zs i ∧ zs i ≤ 32767)
    (H : WLaw n0 n1 n2 L h0 h1 h2 (wholeP L (topVs zs m L)) va vb tP lim) :
    Calls Try.prog 4 #[.agg #[.int .u8 k0, .int .u8 k1, .int .u8 k2], .slice ao m cap, .agg #[.int .u8 h0, .int .u8 h1, .int .u8 h2]] w fun e w' => e = .returned (.bool true) ∧ Bel w w' := by
  have HG := Lib.hid (fun W (hW : Bel w W) => whole12_any b off cap n0 n1 n2 L zs W hn0 hn1 hn2 hL ao m hmm (fun i hi => ⟨(hx i hi).1, hW.cellv (hx i hi).2.1, (hx i hi).2.2⟩))
  have HH := Lib.hid H
  have HL : Hid (n0 * n1 * n2 = L) := hL
  have HS := Lib.hid hs
  have HL0 : Hid (∀ W, Calls Try.prog 11 #[.int .u8 k0, .int .i64 12] W fun e w' => e = .returned (.int .i64 (lenOf k0 12 : Nat)) ∧ Bel W w') := fun W => lengths_any k0 12 W hk0 (by omega) (by omega)
  have HL1 : Hid (∀ W, Calls Try.prog 11 #[.int .u8 k1, .int .i64 6] W fun e w' => e = .returned (.int .i64 (lenOf k1 6 : Nat)) ∧ Bel W w') := fun W => lengths_any k1 6 W hk1 (by omega) (by omega)
  have HL2 : Hid (∀ W, Calls Try.prog 11 #[.int .u8 k2, .int .i64 8] W fun e w' => e = .returned (.int .i64 (lenOf k2 8 : Nat)) ∧ Bel W w') := fun W => lengths_any k2 8 W hk2 (by omega) (by omega)
  rw [e0] at HL0
  rw [e1] at HL1
  rw [e2] at HL2
  obtain ⟨gr, hgr⟩ : ∃ gr, wholeP L (topVs zs m L) = gr := ⟨_, rfl⟩
  rw [hgr] at HG HH
  have hlw : gr.length = L := by rw [← hgr]; exact wholeP_length L _
  have HLW := Lib.hid hlw
  clear hgr e0 e1 e2 hx H hL hs hlw
  go_enter Try.func4, Try.ntmps4
  go_wp2_with fail
  have K3 : N3 ((w.alloc (.cells #[.int .u8 k0, .int .u8 k1, .int .u8 k2] 22)).alloc (.cells #[.int .u8 h0, .int .u8 h1, .int .u8 h2] 22)) .u8 w.heap.size k0 k1 k2 := (n3_new w .u8 k0 k1 k2 _).bel ((Bel.refl _).alloc _)
  have K5 : N3 ((w.alloc (.cells #[.int .u8 k0, .int .u8 k1, .int .u8 k2] 22)).alloc (.cells #[.int .u8 h0, .int .u8 h1, .int .u8 h2] 22)) .u8 (w.heap.size + 1) h0 h1 h2 := n3_new2 w _ .u8 h0 h1 h2 _
  have B0 : Bel w ((w.alloc (.cells #[.int .u8 k0, .int .u8 k1, .int .u8 k2] 22)).alloc (.cells #[.int .u8 h0, .int .u8 h1, .int .u8 h2] 22)) := ((Bel.refl w).alloc _).alloc _
  generalize hW0 : World.alloc _ _ = W0 at K3 K5 B0 ⊢
  clear hW0
  have HK3 : Hid (N3 W0 .u8 w.heap.size k0 k1 k2) := K3
  have HK5 : Hid (N3 W0 .u8 (w.heap.size + 1) h0 h1 h2) := K5
  have HB0 : Hid (Bel w W0) := B0
  have hb0 : Bel W0 W0.drew := (Bel.refl W0).drew
  clear K3 K5 B0
  go_cut [7] from 23 to 32 (fun s7 wx => ∃ p7, s7 = .pointer (some ⟨p7, 0, none⟩) ∧ N3 wx .i64 p7 n0 n1 n2 ∧ Bel W0 wx)
  case first =>
    go_region_held3 (fun w' => w'.cell? ⟨w.heap.size, 0, none⟩ = some (.int .u8 k0) ∧ w'.cell? ⟨w.heap.size, 1, none⟩ = some (.int .u8 k1) ∧ w'.cell? ⟨w.heap.size, 2, none⟩ = some (.int .u8 k2)) (first | exact HK3.out.bel (by assumption) | exact HK3.out.bel (Bel.alloc (by assumption) _) | exact HK3.out.bel (Bel.setCell (Bel.setCell (Bel.setCell (by assumption) (by first | exact Nat.le_refl _ | exact Bel.size (by assumption)) _) (by first | exact Nat.le_refl _ | exact Bel.size (by assumption)) _) (by first | exact Nat.le_refl _ | exact Bel.size (by assumption)) _)) (first | (go_at_call 11; (with_reducible refine (HL0.out _).mono ?_); rintro e w' ⟨rfl, hbx⟩; have hb := Bel.trans (by first | assumption | exact Bel.alloc (by assumption) _ | exact (Bel.alloc (Bel.refl _) _).drew) hbx; try (have hz := Vz.bel (by first | exact vz_new _ _ | exact vz_new' _ _ | assumption) (Vz.lt (by first | exact vz_new _ _ | exact vz_new' _ _ | assumption)) hbx; have f0 := hz.1.1; have f1 := hz.1.2.1; have f2 := hz.1.2.2; have f3 := hz.2.1; have f4 := hz.2.2.1; have f5 := hz.2.2.2)) | (go_at_call 11; (with_reducible refine (HL1.out _).mono ?_); rintro e w' ⟨rfl, hbx⟩; have hb := Bel.trans (by first | assumption | exact Bel.alloc (by assumption) _ | exact (Bel.alloc (Bel.refl _) _).drew) hbx; try (have hz := Vz.bel (by first | exact vz_new _ _ | exact vz_new' _ _ | assumption) (Vz.lt (by first | exact vz_new _ _ | exact vz_new' _ _ | assumption)) hbx; have f0 := hz.1.1; have f1 := hz.1.2.1; have f2 := hz.1.2.2; have f3 := hz.2.1; have f4 := hz.2.2.1; have f5 := hz.2.2.2)) | (go_at_call 11; (with_reducible refine (HL2.out _).mono ?_); rintro e w' ⟨rfl, hbx⟩; have hb := Bel.trans (by first | assumption | exact Bel.alloc (by assumption) _ | exact (Bel.alloc (Bel.refl _) _).drew) hbx; try (have hz := Vz.bel (by first | exact vz_new _ _ | exact vz_new' _ _ | assumption) (Vz.lt (by first | exact vz_new _ _ | exact vz_new' _ _ | assumption)) hbx; have f0 := hz.1.1; have f1 := hz.1.2.1; have f2 := hz.1.2.2; have f3 := hz.2.1; have f4 := hz.2.2.1; have f5 := hz.2.2.2)))
    all_goals (go_wp2_with fail; go_meet; refine ⟨_, rfl, ?_, ?_⟩; · first | exact n3_new _ _ _ _ _ _ | exact n3_set (by assumption) _ _ _ _ _ _ _ rfl rfl rfl
               · first | exact Bel.alloc (by assumption) _ | exact Bel.setCell (Bel.setCell (Bel.setCell (by assumption) (by first | exact Nat.le_refl _ | exact Bel.size (by assumption)) _) (by first | exact Nat.le_refl _ | exact Bel.size (by assumption)) _) (by first | exact Nat.le_refl _ | exact Bel.size (by assumption)) _)
  case rest =>
    obtain ⟨p7, rfl, hN7, hB1⟩ := hcut
    have HN7 : Hid (N3 wc .i64 p7 n0 n1 n2) := hN7
    have HH5 := Lib.hid (HK5.out.bel hB1)
    have HB1 := Lib.hid (HB0.out.trans hB1)
    obtain ⟨q0, q1, q2⟩ := hN7
    clear HK3 HK5 HB0 hB1 HL0 HL1 HL2 hb0 hk0 hk1 hk2
    go_wp2_with fail
    clear q0 q1 q2
    refine (HG.out wc HB1.out).mono ?_
    rintro e w2 ⟨⟨g, c, rfl, hg, ha⟩, hb2⟩
    have st := hb2.trans ((Bel.refl w2).alloc (.cells #[.int .i64 n0, .int .i64 n1, .int .i64 n2, .slice (some ⟨g, 0, none⟩) L c] 29))
    have X7 := Lib.hid (HN7.out.bel st)
    have X5 := Lib.hid (HH5.out.bel st)
    have B2 := Lib.hid (HB1.out.trans st)
    have G8 : Hid (GVar (w2.alloc (.cells #[.int .i64 n0, .int .i64 n1, .int .i64 n2, .slice (some ⟨g, 0, none⟩) L c] 29)) w2.heap.size n0 n1 n2 g L c) := gvar_new _ _ _ _ _ _ _ _
    have A8 : Hid (CArr (w2.alloc (.cells #[.int .i64 n0, .int .i64 n1, .int .i64 n2, .slice (some ⟨g, 0, none⟩) L c] 29)) g c gr) := ha.alloc _
    clear ha hb2 hg HB1 HN7 HH5 st HG
    go_wp2_with fail
    generalize hp8 : w2.heap.size = p8 at G8 ⊢
    generalize World.alloc _ _ = W2 at X7 X5 B2 G8 A8 ⊢
    clear hp8
    refine (Box_any g 0 c n0 n1 n2 L gr va W2 HS.out HL.out HLW.out HH.out.ha (A8.out.at0 HLW.out)).mono ?_
    rintro e w3 ⟨⟨ga, ca, rfl, hga, ha⟩, hb3⟩
    have HLA := Lib.hid ((boxP_length HH.out.ha).trans HLW.out)
    have st := hb3.trans ((Bel.refl w3).alloc (.cells #[.int .i64 n0, .int .i64 n1, .int .i64 n2, .slice (some ⟨ga, 0, none⟩) L ca] 29))
    have X7' := Lib.hid (X7.out.bel st)
    have X5' := Lib.hid (X5.out.bel st)
    have G8' := Lib.hid (G8.out.bel st)
    have A8' := Lib.hid (A8.out.bel st)
    have B3 := Lib.hid (B2.out.trans st)
    have G9 : Hid (GVar (w3.alloc (.cells #[.int .i64 n0, .int .i64 n1, .int .i64 n2, .slice (some ⟨ga, 0, none⟩) L ca] 29)) w3.heap.size n0 n1 n2 ga L ca) := gvar_new _ _ _ _ _ _ _ _
    have A9 : Hid (CArr (w3.alloc (.cells #[.int .i64 n0, .int .i64 n1, .int .i64 n2, .slice (some ⟨ga, 0, none⟩) L ca] 29)) ga ca va) := ha.alloc _
    clear ha hb3 hga st X7 X5 G8 A8 B2
    go_wp2_with fail
    generalize hp9 : w3.heap.size = p9 at G9 ⊢
    generalize World.alloc _ _ = W3 at X7' X5' G8' A8' B3 G9 A9 ⊢
    clear hp9
    refine (Unbox_any ga 0 ca n0 n1 n2 L va vb W3 HS.out HL.out HLA.out HH.out.hb (A9.out.at0 HLA.out)).mono ?_
    rintro e w4 ⟨⟨gb, cb, rfl, hgb, ha⟩, hb4⟩
    have HLB := Lib.hid ((boxP_length HH.out.hb).trans HLA.out)
    have st := hb4.trans ((Bel.refl w4).alloc (.cells #[.int .i64 n0, .int .i64 n1, .int .i64 n2, .slice (some ⟨gb, 0, none⟩) L cb] 29))
    have B4 := Lib.hid (B3.out.trans st)
    have T4 : Hid (Top (w4.alloc (.cells #[.int .i64 n0, .int .i64 n1, .int .i64 n2, .slice (some ⟨gb, 0, none⟩) L cb] 29)) (w.heap.size + 1) p7 p8 p9 w4.heap.size h0 h1 h2 n0 n1 n2 L g c ga ca gb cb gr va vb) :=
      ⟨X5'.out.bel st, X7'.out.bel st, G8'.out.bel st, G9.out.bel st, gvar_new _ _ _ _ _ _ _ _, A8'.out.bel st, A9.out.bel st, ha.alloc _⟩
    clear ha hb4 hgb st X7' X5' G8' A8' G9 A9 B3
    go_wp2_with fail
    refine (Line_any (w4.heap.size + 1) 0 2 2 [(4607182418800017408, 0), (4607182418800017408, 0)] _ _ rfl (by omega) (by omega) (by omega) two_line (lit_cells2 [(4607182418800017408, 0), (4607182418800017408, 0)] (Bel.refl _))).mono ?_
    rintro e w5 ⟨⟨go, co, rfl, hgo, ho⟩, hb5⟩
    have st := ((Bel.refl (w4.alloc (.cells #[.int .i64 n0, .int .i64 n1, .int .i64 n2, .slice (some ⟨gb, 0, none⟩) L cb] 29))).alloc _).trans hb5
    have T5 := Lib.hid (T4.out.bel st)
    have B5 := Lib.hid (B4.out.trans st)
    generalize hp11 : w4.heap.size = p11 at T5 ⊢
    generalize hp5 : w.heap.size + 1 = p5 at T5 ⊢
    clear hp11 hp5
    have d0 := ho.cell (i := 0) (by simp) (0, 0)
    have d1 := ho.cell (i := 1) (by simp) (0, 0)
    simp only [List.getD_cons_zero, List.getD_cons_succ] at d0 d1
    have q2 : (FloatKind.f64.format.order 4611686018427387904 4611686018427387904 == some .eq) = true := by kernel_rfl
    have q0 : (FloatKind.f64.format.order 0 0 == some .eq) = true := by kernel_rfl
    obtain ⟨x0, x1, x2⟩ := T5.out.n7
    obtain ⟨y0, y1, y2, y3⟩ := T5.out.g9
    obtain ⟨z0, z1, z2, z3⟩ := T5.out.g11
    obtain ⟨v0, v1, v2, v3⟩ := T5.out.g8
    clear st hb5 ho hgo T4 B4
    go_wp2_with fail
    clear d0 d1 q2 q0 x0 x1 x2 y0 y1 y2 y3 z0 z1 z2 z3 v0 v1 v2 v3
    refine (total_any g 0 c n0 n1 n2 L gr tP w5 (by omega) HH.out.t0 HH.out.tot (T5.out.a8.at0 HLW.out)).mono ?_
    rintro e w6 ⟨rfl, hb6⟩
    have T6 := Lib.hid (T5.out.bel hb6)
    have B6 := Lib.hid (B5.out.trans hb6)
    clear hb6 T5 B5
    go_wp2_with fail
    obtain ⟨x0, x1, x2⟩ := T6.out.n7
    go_loopw [16, 17] (fun x i wr => ∃ (j : Nat) (ex : Bool), j ≤ 3 ∧ i = .int .i64 j ∧ x = .bool ex ∧ (ex = true → (1 ≤ j → N4 n0) ∧ (2 ≤ j → N4 n1) ∧ (3 ≤ j → N4 n2)) ∧ wr = w6) (fun _ i _ => 3 - (intOf i).toNat)
    case atStart => exact ⟨0, true, by omega, rfl, rfl, fun _ => ⟨fun h => absurd h (by omega), fun h => absurd h (by omega), fun h => absurd h (by omega)⟩, rfl⟩
    case round =>
      obtain ⟨j, ex, hj, rfl, rfl, hex, hwr⟩ := hrel
      subst hwr
      by_cases hlt : j < 3
      · obtain ⟨nj, hcell, hstep⟩ : ∃ nj : Nat, wr.cell? ⟨p7, j, none⟩ = some (.int .i64 nj) ∧ ∀ ex' : Bool, (ex' = true → ex = true ∧ N4 nj) → ex' = true → (1 ≤ j + 1 → N4 n0) ∧ (2 ≤ j + 1 → N4 n1) ∧ (3 ≤ j + 1 → N4 n2) := by
          rcases (by omega : j = 0 ∨ j = 1 ∨ j = 2) with rfl | rfl | rfl
          · exact ⟨n0, x0, fun ex' h h' => ⟨fun _ => (h h').2, fun h => absurd h (by omega), fun h => absurd h (by omega)⟩⟩
          · exact ⟨n1, x1, fun ex' h h' => ⟨fun _ => (hex (h h').1).1 (by omega), fun _ => (h h').2, fun h => absurd h (by omega)⟩⟩
          · exact ⟨n2, x2, fun ex' h h' => ⟨fun _ => (hex (h h').1).1 (by omega), fun _ => (hex (h h').1).2.1 (by omega), fun _ => (h h').2⟩⟩
        have HST := Lib.hid hstep
        clear hstep hex x0 x1 x2
        have hj0 : (j : Int) < 3 := by omega
        by_cases e1 : nj = 1
        · subst e1
          go_wp2_with fail
          go_roundw
          case rel => exact ⟨j + 1, ex, by omega, by go_num, rfl, HST.out ex (fun h => ⟨h, Or.inl rfl⟩), by first | rfl | trivial⟩
          case measure => simp [intOf]; omega
        · by_cases e2 : nj = 2
          · subst e2
            go_wp2_with fail
            go_roundw
            case rel => exact ⟨j + 1, ex, by omega, by go_num, rfl, HST.out ex (fun h => ⟨h, Or.inr (Or.inl rfl)⟩), by first | rfl | trivial⟩
            case measure => simp [intOf]; omega
          · by_cases e4 : nj = 4
            · subst e4
              go_wp2_with fail
              go_roundw
              case rel => exact ⟨j + 1, ex, by omega, by go_num, rfl, HST.out ex (fun h => ⟨h, Or.inr (Or.inr rfl)⟩), by first | rfl | trivial⟩
              case measure => simp [intOf]; omega
            · have i1 : ((nj : Int) == 1) = false := by simp; omega
              have j1 : ((nj : Int) != 1) = true := by simp; omega
              have j2 : ((nj : Int) != 2) = true := by simp; omega
              have j4 : ((nj : Int) != 4) = true := by simp; omega
              have l1 : ¬ ((nj : Int) = 1) := by omega
              have l2 : ¬ ((nj : Int) = 2) := by omega
              have l4 : ¬ ((nj : Int) = 4) := by omega
              have i2 : ((nj : Int) == 2) = false := by simp; omega
              have i4 : ((nj : Int) == 4) = false := by simp; omega
              go_wp2_with fail
              go_roundw
              case rel => exact ⟨j + 1, false, by omega, by go_num, rfl, HST.out false (fun h => by cases h), by first | rfl | trivial⟩
              case measure => simp [intOf]; omega
      · have : j = 3 := by omega
        subst this
        have HEX : Hid (ex = true → N4 n0 ∧ N4 n1 ∧ N4 n2) := fun h => ⟨(hex h).1 (by omega), (hex h).2.1 (by omega), (hex h).2.2 (by omega)⟩
        clear hex x0 x1 x2 hj hlt
        have v3 := T6.out.g8.2.2.2
        go_wp2_with fail
        clear v3
        obtain ⟨w6, rfl⟩ : ∃ w6 : World, w6 = wr := ⟨_, rfl⟩
        go_loopw [18] (fun i wr => ∃ j : Nat, j ≤ L ∧ i = .int .i64 j ∧ Bel w6 wr) (fun i _ => L - (intOf i).toNat)
        case atStart => exact ⟨0, Nat.zero_le _, rfl, Bel.refl w6⟩
        case round =>
          obtain ⟨j, hj, rfl, hbw⟩ := hrel
          have T7 := Lib.hid (T6.out.bel hbw)
          have v3 := T7.out.g8.2.2.2
          by_cases hlt : j < L
          · obtain ⟨d, r, hsub, habs, hgt⟩ := HH.out.diff j hlt
            have hsame : ex = true → cEq (vb.getD j (0, 0)) (gr.getD j (0, 0)) = true := fun h => HH.out.same (HEX.out h).1 (HEX.out h).2.1 (HEX.out h).2.2 j hlt
            have x1 := T7.out.a11.cell (i := j) (by rw [HLB.out]; exact hlt) (0, 0)
            have y1 := T7.out.a8.cell (i := j) (by rw [HLW.out]; exact hlt) (0, 0)
            have z3 := T7.out.g11.2.2.2
            generalize vb.getD j (0, 0) = x at hsub hsame x1
            generalize gr.getD j (0, 0) = y at hsub hsame y1
            have o1 := fun t w => run_complex_sum (P := Try.prog) w .sub (Or.inr rfl) t .f64 _ _ _ _ _ _ hsub
            have o2 := fun T w => run_float_arith (P := Try.prog) w .mul T .f64 _ _ _ HH.out.hl
            have HA := Lib.hid (fun w => absR_any habs w)
            have hjL : (j : Int) < L := by omega
            have HBW := Lib.hid hbw
            clear hbw hsub habs
            cases ex with
            | false =>
              go_wp2_with fail
              go_big_quiet ((go_at_call 15; exact Calls.quiet_of_same ((HA.out _).mono fun _ _ h => ⟨h.1, h.2.symm⟩)))
              go_wp2_with fail
              go_roundw
              case rel => exact ⟨j + 1, by omega, by go_num, below_drewN HBW.out nq⟩
              case measure => simp [intOf]; omega
            | true =>
              have heq := hsame rfl
              have hop := fun t w => cEq_run heq t w
              clear heq hsame
              go_wp2_with fail
              go_big_quiet ((go_at_call 15; exact Calls.quiet_of_same ((HA.out _).mono fun _ _ h => ⟨h.1, h.2.symm⟩)))
              go_wp2_with fail
              go_roundw
              case rel => (repeat apply Exists.intro); exact ⟨⟨j + 1, by omega, by go_num, below_drewN HBW.out nq⟩, rfl⟩
              case measure => simp [intOf]; omega
          · have : j = L := by omega
            subst this
            obtain ⟨s, d, r, hdir, hsub, habs, hle⟩ := HH.out.dir
            have HDIR := Lib.hid hdir
            have HA := Lib.hid (fun w => absR_any habs w)
            have o1 := fun t w => run_complex_sum (P := Try.prog) w .sub (Or.inr rfl) t .f64 _ _ _ _ _ _ hsub
            have o2 := fun T w => run_float_arith (P := Try.prog) w .mul T .f64 _ _ _ HH.out.hl
            have B7 := Lib.hid (B6.out.trans hbw)
            obtain ⟨y0, y1, y2⟩ := T7.out.h5
            have st := (Bel.refl wr).alloc (.cells #[.int .i64 h0, .int .i64 h1, .int .i64 h2] 26)
            have T8 := Lib.hid (T7.out.bel st)
            have B8 := Lib.hid (B7.out.trans st)
            have H19 : Hid (N3 (wr.alloc (.cells #[.int .i64 h0, .int .i64 h1, .int .i64 h2] 26)) .i64 wr.heap.size h0 h1 h2) := n3_new _ _ _ _ _ _
            obtain ⟨v0, v1, v2, v4⟩ := T8.out.g8
            obtain ⟨u0, u1, u2⟩ := H19.out
            have hw0 : IntKind.i64.wrap (h0 : Int) = h0 := IntWalk.i64_in _ (by omega)
            have hw1 : IntKind.i64.wrap (h1 : Int) = h1 := IntWalk.i64_in _ (by omega)
            have hw2 : IntKind.i64.wrap (h2 : Int) = h2 := IntWalk.i64_in _ (by omega)
            clear hbw hdir hsub habs st T6 B6 B7
            go_wp2_with fail
            clear v0 v1 v2 v3 v4 u0 u1 u2 y0 y1 y2 hw0 hw1 hw2
            generalize hp19 : wr.heap.size = p19 at H19 ⊢
            generalize World.alloc _ _ = W8 at T8 B8 H19 ⊢
            clear hp19 T7
            refine (Direct_any g 0 c n0 n1 n2 j h0 h1 h2 gr s W8 HS.out HL.out HLW.out (by omega) (by omega) (by omega) (by omega) (by omega) (by omega) HDIR.out (T8.out.a8.at0 HLW.out)).mono ?_
            rintro e w9 ⟨rfl, hb9⟩
            have T9 := Lib.hid (T8.out.bel hb9)
            have B9 := Lib.hid (B8.out.trans hb9)
            have H19' := Lib.hid (H19.out.bel hb9)
            clear T8 B8 H19 hb9 HDIR
            have hS0 := HS.out.a0
            have hS1 := HS.out.a1
            have hS2 := HS.out.a2
            obtain ⟨a0, ha0⟩ : ∃ a0, h0 % n0 = a0 := ⟨_, rfl⟩
            obtain ⟨a1, ha1⟩ : ∃ a1, h1 % n1 = a1 := ⟨_, rfl⟩
            obtain ⟨a2, ha2⟩ : ∃ a2, h2 % n2 = a2 := ⟨_, rfl⟩
            have l0 : a0 < n0 := by rw [← ha0]; exact Nat.mod_lt _ (by omega)
            have l1 : a1 < n1 := by rw [← ha1]; exact Nat.mod_lt _ (by omega)
            have l2 : a2 < n2 := by rw [← ha2]; exact Nat.mod_lt _ (by omega)
            have HM0 := Lib.hid (fun w => among_any h0 n0 w (by omega) (by omega) (by omega))
            have HM1 := Lib.hid (fun w => among_any h1 n1 w (by omega) (by omega) (by omega))
            have HM2 := Lib.hid (fun w => among_any h2 n2 w (by omega) (by omega) (by omega))
            rw [ha0] at HM0 o1
            rw [ha1] at HM1 o1
            rw [ha2] at HM2 o1
            have HP := Lib.hid (fun w => spot_any a0 a1 a2 n0 n1 n2 w l0 l1 l2 (by omega) (by omega) (by omega))
            have m1 : (a0 + 1) * n1 ≤ n0 * n1 := Nat.mul_le_mul_right n1 l0
            have m2 : (a0 * n1 + a1 + 1) * n2 ≤ n0 * n1 * n2 := Nat.mul_le_mul_right n2 (by rw [Nat.add_mul, Nat.one_mul] at m1; omega)
            rw [HL.out, Nat.add_mul, Nat.one_mul] at m2
            have hix : (a0 * n1 + a1) * n2 + a2 < j := by omega
            have hcell := T9.out.a9.cell (i := (a0 * n1 + a1) * n2 + a2) (by rw [HLA.out]; exact hix) (0, 0)
            have hcellA := hcell
            rw [show va.getD ((a0 * n1 + a1) * n2 + a2) (0, 0) = at3 n1 n2 va a0 a1 a2 from rfl] at hcell
            generalize (a0 * n1 + a1) * n2 + a2 = ix at HP hix hcell
            generalize at3 n1 n2 va a0 a1 a2 = y at hcell o1
            have hixI : (ix : Int) < j := by omega
            have z3 := T9.out.g9.2.2.2
            have HT : Hid (N3 w9 .i64 p19 h0 h1 h2 ∧ N3 w9 .i64 p7 n0 n1 n2 ∧ w9.cell? ⟨p9, 3, none⟩ = some (.slice (some ⟨ga, 0, none⟩) j ca) ∧ w9.cell? ⟨ga, ix, none⟩ = some (cVal y)) := ⟨H19'.out, T9.out.n7, z3, hcell⟩
            have hb9 : Bel w9 w9.drew := (Bel.refl w9).drew
            clear hcellA hcell z3 m1 m2 ha0 ha1 ha2 H19'
            go_wp2_with fail
            go_region_held3 (fun w' => (w'.cell? ⟨p19, 0, none⟩ = some (.int .i64 h0) ∧ w'.cell? ⟨p19, 1, none⟩ = some (.int .i64 h1) ∧ w'.cell? ⟨p19, 2, none⟩ = some (.int .i64 h2)) ∧ (w'.cell? ⟨p7, 0, none⟩ = some (.int .i64 n0) ∧ w'.cell? ⟨p7, 1, none⟩ = some (.int .i64 n1) ∧ w'.cell? ⟨p7, 2, none⟩ = some (.int .i64 n2)) ∧ w'.cell? ⟨p9, 3, none⟩ = some (.slice (some ⟨ga, 0, none⟩) j ca) ∧ w'.cell? ⟨ga, ix, none⟩ = some (cVal y)) (exact ⟨HT.out.1.bel (by assumption), HT.out.2.1.bel (by assumption), Bel.cellv (by assumption) HT.out.2.2.1, Bel.cellv (by assumption) HT.out.2.2.2⟩) (first | (go_at_call 17; (with_reducible refine (HM0.out _).mono ?_); rintro e w' ⟨rfl, rfl⟩) | (go_at_call 17; (with_reducible refine (HM1.out _).mono ?_); rintro e w' ⟨rfl, rfl⟩) | (go_at_call 17; (with_reducible refine (HM2.out _).mono ?_); rintro e w' ⟨rfl, rfl⟩) | (go_at_call 16; (with_reducible refine (callsFrom (HP.out _) (by assumption)).mono ?_); rintro e w' ⟨rfl, hb⟩))
            have B10 := Lib.hid (B9.out.trans hb)
            clear hb hb9 HM0 HM1 HM2 HP HT
            go_wp2_with fail
            refine (HA.out _).mono ?_
            rintro e w10 ⟨rfl, rfl⟩
            go_wp2_with fail
            go_ret
            exact ⟨rfl, B10.out⟩

end Go.Proofs.Ytdeigbbilcjgjaa
