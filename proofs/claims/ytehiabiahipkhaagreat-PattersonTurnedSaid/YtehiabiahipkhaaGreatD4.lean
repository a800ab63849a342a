/-
  The walk of facetlaw23.awake.
  Whatever the grid and its numbers, the law 'PattersonExacts' answers true, and its argument reads behind the call as it did.
-/
import Derived.Test.YtehiabiahipkhaaGreatC6
import Derived.Test.YtehiabiahipkhaaGreatD3
import Derived.Test.YtehiabiahipkhaaGreatB5
import Derived.Test.YtehiabiahipkhaaGreatRows
import Derived.ProofKit
import Derived.SizedLaws
import Derived.OpenShut
import Derived.Deep.Slices
import Derived.ChangeSame
import Derived.WideShapes
import Derived.Laws.IdiomArrays
namespace Go.Proofs.YtehiabiahipkhaaGreat
open Go.RowKit
set_option linter.unusedVariables false
set_option linter.unusedSimpArgs false

theorem s3_four : S3 1 1 4 4 := ⟨by decide, by decide, by decide, by decide, by decide⟩
theorem within_four : Within [1, 2, 0, 0] := by
  intro i hi
  have h : i = 0 ∨ i = 1 ∨ i = 2 ∨ i = 3 := by simp at hi; omega
  rcases h with rfl | rfl | rfl | rfl <;> decide
theorem auto_four : autoL 1 1 4 4 [1, 2, 0, 0] = [5, 2, 0, 2] := by kernel_rfl
theorem p3_five : P3 1 1 5 5 := ⟨by decide, by decide, by decide, by decide, by decide⟩
theorem pk_five : pkList 1 1 5 [1, 0, 2, 0, 0] 0 5 = [⟨0, 0, 0, 1⟩, ⟨0, 0, 2, 2⟩] := by kernel_rfl
theorem ins_five : insL 0 [⟨0, 0, 0, 1⟩, ⟨0, 0, 2, 2⟩] 1 = [⟨0, 0, 2, 2⟩, ⟨0, 0, 0, 1⟩] := by kernel_rfl

theorem exact_four (b : Nat) (w : World) (hx : ∀ i, i < 4 → w.cell? ⟨b, 0 + i, none⟩ = some (iV (([1, 2, 0, 0] : List Int).getD i 0))) :
    Calls Tryz.prog 11 #[countV 1 1 4 (some ⟨b, 0, none⟩) 4 4] w fun e w' => (∃ g c, e = .returned (.tuple #[countV 1 1 4 (some ⟨g, 0, none⟩) 4 c, .int .i64 0]) ∧ IArr w' g c [5, 2, 0, 2]) ∧ Bel w w' := by
  refine (exact_go b 0 4 1 1 4 4 [1, 2, 0, 0] w s3_four rfl hx).mono ?_
  rintro e w' ⟨h, hb⟩
  refine ⟨?_, hb⟩
  rcases h with ⟨h, _⟩ | ⟨_, g, c, he, _, ha⟩
  · exact absurd within_four h
  · exact ⟨g, c, he, ha.ext auto_four⟩

theorem peaks_five (b : Nat) (w : World) (hx : ∀ i, i < 5 → w.cell? ⟨b, 0 + i, none⟩ = some (iV (([1, 0, 2, 0, 0] : List Int).getD i 0))) :
    Calls Tryz.prog 15 #[countV 1 1 5 (some ⟨b, 0, none⟩) 5 5, .int .i64 0] w fun e w' => (∃ g c, e = .returned (.tuple #[.slice (some ⟨g, 0, none⟩) 2 c, .int .i64 0]) ∧ PRow w' g [⟨0, 0, 2, 2⟩, ⟨0, 0, 0, 1⟩]) ∧ Bel w w' := by
  have hs : SortsTo (pkList 1 1 5 [1, 0, 2, 0, 0] 0 5) [⟨0, 0, 2, 2⟩, ⟨0, 0, 0, 1⟩] := by
    rw [pk_five]
    have := sortsTo_few [⟨0, 0, 0, 1⟩, ⟨0, 0, 2, 2⟩] (by decide) (by decide)
    rw [show ([⟨0, 0, 0, 1⟩, ⟨0, 0, 2, 2⟩] : List Pk).length - 1 = 1 from rfl, ins_five] at this
    exact this
  refine (peaks_some b 0 5 1 1 5 5 0 [1, 0, 2, 0, 0] _ w p3_five rfl (by rw [pk_five]; decide) hs hx).mono ?_
  rintro e w' ⟨⟨g, c, he, _, hr⟩, hb⟩
  rw [pk_five] at he
  exact ⟨⟨g, c, he, hr⟩, hb⟩

@[go_sem] theorem ceq_a (w : World) : (binOp .eql 72 (.complex .f64 4612811918334230528 0) (.complex .f64 4612811918334230528 0)).run Tryz.prog w = .ok (.bool true) w := by kernel_rfl
@[go_sem] theorem ceq_b (w : World) : (binOp .eql 72 (.complex .f64 4609434218613702656 0) (.complex .f64 4609434218613702656 0)).run Tryz.prog w = .ok (.bool true) w := by kernel_rfl

set_option maxHeartbeats 8000000 in
set_option maxRecDepth 100000 in
theorem awake_any (w : World) : Calls Tryz.prog 8 #[] w fun e w' => e = .returned (.bool true) ∧ Bel w w' := by
  have HE := Lib.hid exact_four
  have HP := Lib.hid peaks_five
  have HM := Lib.hid map_two
  go_enter Tryz.func8, Tryz.ntmps8
  go_wp2_with fail
  have HB1 : Hid (Bel w (w.alloc (.cells #[.int .i64 1, .int .i64 1, .int .i64 4] 23))) := (Bel.refl w).alloc _
  have KN : Hid (I3 (w.alloc (.cells #[.int .i64 1, .int .i64 1, .int .i64 4] 23)) w.heap.size 1 1 4) := i3_new _ _ _ _ _
  have z1 : (w.alloc (.cells #[.int .i64 1, .int .i64 1, .int .i64 4] 23)).heap.size = w.heap.size + 1 := size_alloc' _ _
  generalize World.alloc w _ = W1 at HB1 KN z1 ⊢
  have hp1 : w.heap.size < W1.heap.size := by omega
  have HB2 : Hid (Bel W1 (W1.alloc (.cells #[.int .i64 1, .int .i64 2, .int .i64 0, .int .i64 0] 3))) := (Bel.refl W1).alloc _
  have HX2 : Hid (∀ i, i < 4 → (W1.alloc (.cells #[.int .i64 1, .int .i64 2, .int .i64 0, .int .i64 0] 3)).cell? ⟨w.heap.size + 1, 0 + i, none⟩ = some (iV (([1, 2, 0, 0] : List Int).getD i 0))) := fun i hi => by
    rw [Nat.zero_add, ← z1, cell_new]
    rcases (by omega : i = 0 ∨ i = 1 ∨ i = 2 ∨ i = 3) with rfl | rfl | rfl | rfl <;> rfl
  have HB0 : Hid (Bel w (W1.alloc (.cells #[.int .i64 1, .int .i64 2, .int .i64 0, .int .i64 0] 3))) := HB1.out.trans HB2.out
  have KN2 := Lib.hid (KN.out.bel HB2.out)
  clear HB1 KN
  generalize World.alloc _ _ = W2 at HB2 HX2 HB0 KN2 ⊢
  clear z1
  generalize w.heap.size + 1 = b2 at HX2 ⊢
  refine (HE.out _ _ HX2.out).mono ?_
  rintro e w3 ⟨⟨g, c, rfl, ha⟩, hb3⟩
  have HA := Lib.hid ha
  have HB3 := Lib.hid (HB0.out.trans hb3)
  have KN3 := Lib.hid (KN2.out.bel hb3)
  clear ha hb3 HX2 HB2 KN2 HB0
  go_wp2_with fail
  have HB4 : Hid (Bel w3 (w3.alloc (.cells #[.int .i64 1, .int .i64 1, .int .i64 4, .slice (some ⟨g, 0, none⟩) 4 c] 26))) := (Bel.refl w3).alloc _
  have KC : Hid (CVar (w3.alloc (.cells #[.int .i64 1, .int .i64 1, .int .i64 4, .slice (some ⟨g, 0, none⟩) 4 c] 26)) w3.heap.size 1 1 4 (some ⟨g, 0, none⟩) 4 c) := cvar_new _ _ _ _ _ _ _ _
  have z3 : (w3.alloc (.cells #[.int .i64 1, .int .i64 1, .int .i64 4, .slice (some ⟨g, 0, none⟩) 4 c] 26)).heap.size = w3.heap.size + 1 := size_alloc' _ _
  generalize World.alloc w3 _ = W4 at HB4 KC z3 ⊢
  have HB5 : Hid (Bel W4 (W4.alloc (.cells #[.int .i64 1, .int .i64 0, .int .i64 2, .int .i64 0, .int .i64 0] 3))) := (Bel.refl W4).alloc _
  have HX5 : Hid (∀ i, i < 5 → (W4.alloc (.cells #[.int .i64 1, .int .i64 0, .int .i64 2, .int .i64 0, .int .i64 0] 3)).cell? ⟨w3.heap.size + 1, 0 + i, none⟩ = some (iV (([1, 0, 2, 0, 0] : List Int).getD i 0))) := fun i hi => by
    rw [Nat.zero_add, ← z3, cell_new]
    rcases (by omega : i = 0 ∨ i = 1 ∨ i = 2 ∨ i = 3 ∨ i = 4) with rfl | rfl | rfl | rfl | rfl <;> rfl
  have HA5 := Lib.hid (HA.out.bel (HB4.out.trans HB5.out))
  have HB6 := Lib.hid (HB3.out.trans (HB4.out.trans HB5.out))
  have KN5 := Lib.hid (KN3.out.bel (HB4.out.trans HB5.out))
  have KC5 := Lib.hid (KC.out.bel HB5.out)
  clear HA HB3 KN3 KC HB4
  generalize World.alloc _ _ = W5 at HB5 HX5 HA5 HB6 KN5 KC5 ⊢
  clear z3 HB5
  generalize hpc : w3.heap.size = pc at KC5 HX5 ⊢
  clear hpc
  generalize pc + 1 = b5 at HX5 ⊢
  refine (HP.out _ _ HX5.out).mono ?_
  rintro e w6 ⟨⟨g6, c6, rfl, hr6⟩, hb6⟩
  have HR6 := Lib.hid hr6
  have HA6 := Lib.hid (HA5.out.bel hb6)
  have HB7 := Lib.hid (HB6.out.trans hb6)
  have KN6 := Lib.hid (KN5.out.bel hb6)
  have KC6 := Lib.hid (KC5.out.bel hb6)
  clear hr6 hb6 HA5 HB6 KN5 KC5 HX5
  go_wp2_with fail
  have HB8 : Hid (Bel w6 (w6.alloc (.cells #[.int .i64 0, .int .i64 0, .int .i64 0, .complex .f64 4611686018427387904 0, .int .i64 0, .int .i64 0, .int .i64 1, .complex .f64 0 4607182418800017408] 74))) := (Bel.refl w6).alloc _
  have HT8 : Hid (TwoW (w6.alloc (.cells #[.int .i64 0, .int .i64 0, .int .i64 0, .complex .f64 4611686018427387904 0, .int .i64 0, .int .i64 0, .int .i64 1, .complex .f64 0 4607182418800017408] 74)) w6.heap.size) := ⟨⟨cell_new _ _ _ 0, cell_new _ _ _ 1, cell_new _ _ _ 2, cell_new _ _ _ 3⟩, cell_new _ _ _ 4, cell_new _ _ _ 5, cell_new _ _ _ 6, cell_new _ _ _ 7⟩
  generalize World.alloc _ _ = W8 at HB8 HT8 ⊢
  generalize w6.heap.size = b8 at HT8 ⊢
  refine (HM.out _ _ HT8.out).mono ?_
  rintro e w9 ⟨⟨g9, c9, rfl, hc9⟩, hb9⟩
  have hb69 := HB8.out.trans hb9
  have HC9 := Lib.hid hc9
  have HR9 := Lib.hid (HR6.out.bel hb69)
  have HA9 := Lib.hid (HA6.out.bel hb69)
  have HB9 := Lib.hid (HB7.out.trans hb69)
  have KN9 := Lib.hid (KN6.out.bel hb69)
  have KC9 := Lib.hid (KC6.out.bel hb69)
  clear hc9 hb9 hb69 HT8 HB8 HR6 HA6 HB7 KN6 KC6
  obtain ⟨y0, y1, y2, y3⟩ := KC9.out
  have hpcl : pc < w9.heap.size := by simpa using World.block_lt_of_cell? _ _ y0
  go_wp2_with fail
  clear y0 y1 y2 y3 hpcl
  have HB10 : Hid (Bel w9 (w9.alloc (.cells #[.int .i64 1, .int .i64 1, .int .i64 2, .slice (some ⟨g9, 0, none⟩) 2 c9] 69))) := (Bel.refl w9).alloc _
  have KG : Hid (CVar (w9.alloc (.cells #[.int .i64 1, .int .i64 1, .int .i64 2, .slice (some ⟨g9, 0, none⟩) 2 c9] 69)) w9.heap.size 1 1 2 (some ⟨g9, 0, none⟩) 2 c9) := cvar_new _ _ _ _ _ _ _ _
  have z9 : (w9.alloc (.cells #[.int .i64 1, .int .i64 1, .int .i64 2, .slice (some ⟨g9, 0, none⟩) 2 c9] 69)).heap.size = w9.heap.size + 1 := size_alloc' _ _
  generalize World.alloc w9 _ = W10 at HB10 KG z9 ⊢
  have HB11 : Hid (Bel W10 (W10.alloc (.cells #[.int .i64 5, .int .i64 2, .int .i64 0, .int .i64 2] 3))) := (Bel.refl W10).alloc _
  have HX11 : Hid (∀ i, i < 4 → (W10.alloc (.cells #[.int .i64 5, .int .i64 2, .int .i64 0, .int .i64 2] 3)).cell? ⟨w9.heap.size + 1, 0 + i, none⟩ = some (iV (([5, 2, 0, 2] : List Int).getD i 0))) := fun i hi => by
    rw [Nat.zero_add, ← z9, cell_new]
    rcases (by omega : i = 0 ∨ i = 1 ∨ i = 2 ∨ i = 3) with rfl | rfl | rfl | rfl <;> rfl
  have hb911 := HB10.out.trans HB11.out
  have KG11 := Lib.hid (KG.out.bel HB11.out)
  generalize World.alloc _ _ = W11 at HB11 HX11 KG11 hb911 ⊢
  have HC11 := Lib.hid (HC9.out.bel hb911)
  have HR11 := Lib.hid (HR9.out.bel hb911)
  have HA11 := Lib.hid (HA9.out.bel hb911)
  have HBB := Lib.hid (HB9.out.trans hb911)
  have KN11 := Lib.hid (KN9.out.bel hb911)
  have KC11 := Lib.hid (KC9.out.bel hb911)
  clear hb911 HB10 KG z9 HB11 HC9 HR9 HA9 HB9 KN9 KC9
  generalize w9.heap.size = pg at KG11 HX11 ⊢
  generalize pg + 1 = b11 at HX11 ⊢
  have HI := Lib.hid (ints_any g 0 c b11 0 4 4 4 (some ⟨g, 0, none⟩) (some ⟨b11, 0, none⟩) [5, 2, 0, 2] [5, 2, 0, 2] W11 rfl rfl (by omega) (fun i hi => ⟨rfl, by rw [Nat.zero_add]; exact HA11.out.cell (by show i < 4; exact hi) 0⟩) (fun i hi => ⟨rfl, HX11.out i hi⟩))
  rw [decide_eq_true rfl] at HI
  clear HX11
  refine HI.out.mono ?_
  rintro e w12 ⟨rfl, hb12⟩
  have HBF := Lib.hid (HBB.out.trans hb12)
  obtain ⟨y0, y1, y2, y3⟩ := KC11.out.bel hb12
  obtain ⟨⟨n0, n1, n2⟩, _⟩ := KN11.out.bel hb12
  have hr := HR11.out.bel hb12
  have l03 := (hr 0 (by decide) 3 _ rfl).1
  have l00 := (hr 0 (by decide) 0 _ rfl).1
  have l01 := (hr 0 (by decide) 1 _ rfl).1
  have l02 := (hr 0 (by decide) 2 _ rfl).1
  have l13 := (hr 1 (by decide) 3 _ rfl).1
  obtain ⟨m0, m1, m2, m3⟩ := KG11.out.bel hb12
  have hc := HC11.out.bel hb12
  have q0 : w12.cell? ⟨g9, 0, none⟩ = some (.complex .f64 4612811918334230528 0) := hc.cell (i := 0) (by decide) (0, 0)
  have q1 : w12.cell? ⟨g9, 1, none⟩ = some (.complex .f64 4609434218613702656 0) := hc.cell (i := 1) (by decide) (0, 0)
  simp only [Nat.zero_mul, Nat.zero_add, Nat.one_mul, Nat.reduceAdd] at l03 l00 l01 l02 l13
  clear hr hc hb12 HI
  go_wp2_with fail
  go_ret
  exact ⟨rfl, HBF.out⟩

end Go.Proofs.YtehiabiahipkhaaGreat

namespace Go.Proofs.YtehiabiahipkhaaGreat
open Go.ChangeShapes Go.WideShapes Go.ChangeAt Go.RowKit
set_option linter.unusedVariables false
set_option linter.unusedSimpArgs false

theorem Tryz.own : ownKnob Tryz.prog.godebug = none := by kernel_rfl
theorem Tryz.laidOut : laidOutB Tryz.prog = true := by kernel_rfl
theorem Tryz.cellsInt : Tryz.prog.cellsOf 3 = 1 := by kernel_rfl
theorem Tryz.cellsVec : Tryz.prog.cellsOf 23 = 3 := by kernel_rfl
theorem Tryz.cellsRow : Tryz.prog.cellsOf 24 = 1 := by kernel_rfl
theorem Tryz.cellsCounts : Tryz.prog.cellsOf 26 = 4 := by kernel_rfl
theorem list4 {α : Type} (l : List α) (h : l.length = 4) : ∃ a b c d, l = [a, b, c, d] := by
  match l, h with
  | [a, b, c, d], _ => exact ⟨a, b, c, d, rfl⟩

set_option maxHeartbeats 2000000 in
set_option maxRecDepth 100000 in
/-- An api.Counts that reads: three ints, a slice of ints. -/
theorem open_counts {H : Type} {enc : TypeId × Value → H} {w : World} {base : Nat} {spare : Nat → Bool} {held : Bool} {r : Reach} {b0 : Nat} {v : Value} {d : DataW H} {p : List MemPlace}
    (hv : Value.okWide Tryz.prog w r b0 26 v) (h : DataW.Trod enc Tryz.prog w base spare held 26 v d p) :
    ∃ (n0 n1 n2 : Int) (ao : Option Addr) (m cap b off : Nat) (cs : List Int), v = countV n0 n1 n2 ao m cap ∧ cs.length = m ∧ (ao = none → cap = 0) ∧ ∀ i, i < m → ao = some ⟨b, off, none⟩ ∧ w.cell? ⟨b, off + i, none⟩ = some (iV (cs.getD i 0)) := by
  obtain ⟨cs, rfl, hcs⟩ := okWide_struct Tryz.underlying26 hv
  rw [Tryz.cellsCounts] at hcs
  obtain ⟨l⟩ := cs
  obtain ⟨x0, x1, x2, x3, rfl⟩ := list4 l (by simpa using hcs)
  obtain ⟨fuel, hf⟩ := h
  obtain ⟨y0, y1, n, _, _, h0, h1⟩ := trod_struct2 Tryz.underlying26 hf
  have e0 : DataW.trod enc Tryz.prog w base spare held n 23 [x0, x1, x2] = some y0 := by
    have := h0
    simp only [Tryz.cellsVec, Value.cells] at this
    simpa using this
  have e1 : DataW.trod enc Tryz.prog w base spare held n 24 [x3] = some y1 := by
    have := h1
    simp only [Tryz.cellsRow, Value.cells] at this
    simpa using this
  obtain ⟨z0, z1, z2, m', _, hz0, hz1, hz2⟩ := trod_array3 Tryz.underlying23 Tryz.cellsInt e0
  obtain ⟨k0, g0, _, _⟩ := DataW.trod_int Tryz.underlying3 hz0
  obtain ⟨k1, g1, _, _⟩ := DataW.trod_int Tryz.underlying3 hz1
  obtain ⟨k2, g2, _, _⟩ := DataW.trod_int Tryz.underlying3 hz2
  simp at g0 g1 g2
  subst g0 g1 g2
  rcases Go.Deep.open_slice Tryz.underlying24 e1 with ⟨e, _⟩ | ⟨a, len, cap, mm, n', D, Pl, e, _, hl, hm, hmm, hx, hel⟩
  · simp at e
    subst e
    exact ⟨k0, k1, k2, none, 0, 0, 0, 0, [], rfl, rfl, fun _ => rfl, fun i hi => absurd hi (by omega)⟩
  · simp at e
    subst e
    have hmle : len ≤ mm := by rw [hmm]; split <;> omega
    have hx' : ∀ i, ∃ z : Int, i < len → w.cell? (a.add i) = some (.int .i64 z) := by
      intro i
      by_cases h : i < len
      · obtain ⟨cs', q1, q2⟩ := hel i (by omega)
        rw [Tryz.cellsInt] at q1
        obtain ⟨_, hl', hc⟩ := World.cells?_some q1
        match cs', hl' with
        | [c0], _ =>
          obtain ⟨x0, q0, _, w0⟩ := DataW.trod_int Tryz.underlying3 q2
          have k0 := hc 0 (by omega)
          rw [Go.Deep.add_add] at k0
          simp at q0
          subst q0
          exact ⟨x0, fun _ => by simpa using k0⟩
      · exact ⟨0, fun h' => absurd h' h⟩
    obtain ⟨f, hf'⟩ := Classical.skolem.1 hx'
    have hlen : ((List.range len).map f).length = len := by simp
    have hget : ∀ i, i < len → ((List.range len).map f).getD i 0 = f i := fun i hi => by simp [hi]
    by_cases h0 : 0 < len
    · have h1 := hf' 0 h0
      obtain ⟨b, off, spot⟩ := a
      have hs : spot = none := by simpa [Addr.add] using World.cell?_spot h1
      subst hs
      have hadd : ∀ k, (⟨b, off, none⟩ : Addr).add k = ⟨b, off + k, none⟩ := fun k => by cases k <;> simp [Addr.add]
      exact ⟨k0, k1, k2, some ⟨b, off, none⟩, len, cap, b, off, (List.range len).map f, rfl, hlen, (fun h => by cases h), fun i hi => ⟨rfl, by rw [hget i hi, ← hadd]; exact hf' i hi⟩⟩
    · exact ⟨k0, k1, k2, some a, len, cap, 0, 0, (List.range len).map f, rfl, hlen, (fun h => by cases h), fun i hi => absurd hi (by omega)⟩

set_option maxHeartbeats 4000000 in
set_option maxRecDepth 100000 in
theorem pattersonExacts_lifted (os : Os) (started : os.Started) (H : Type) (enc : TypeId × Value → H) :
    ReturnsInHanded {} Tryz.checked os 3 .any (Rows.pattersonExactsSpec.pre6 enc Tryz.prog Tryz.f3 Rows.pattersonExactsRow.domain false) (Rows.pattersonExactsSpec.post enc Tryz.prog Tryz.f3 false true false false) := by
  refine returnsInHanded_of_change_sized (C := Tryz.checked) Tryz.own started (by kernel_rfl) Tryz.func3
    (ChangeSpec.witness6 (enc := enc) (C := Tryz.checked) false ⟨#[], #[.agg #[.int .i64 0, .int .i64 0, .int .i64 0, .slice none 0 0]], []⟩ 8 (by kernel_rfl) (by kernel_rfl) (by kernel_rfl) (by kernel_rfl)) ?_
  intro W base args ds gs before hval0 hW _ hsz0 _
  have hval : ∀ (j : Nat) t v, Tryz.f3.params[j]? = some t → args[j]? = some v → Value.okWide Tryz.prog W .any base t v := hval0
  have hW' := hW
  obtain ⟨p, q, hA0, hV, rfl, hfz, hnd⟩ := hW
  have hA : DataW.TrodAll enc Tryz.prog W 0 (fun _ => true) true Tryz.f3.params.toList args.toList ds p := hA0
  rw [Tryz.params3] at hA hval
  obtain ⟨v0, d0, rfl, rfl, h0⟩ := trodAll_one hA
  obtain ⟨rfl, rfl⟩ := trodVars_none hV
  clear hA0 hval0 hsz0
  simp only [List.append_nil] at hW'
  have h0k := h0
  have lt0 : ∀ x ∈ p, x.block < W.heap.size := fun x hx => by simpa using hW'.lt x hx
  obtain ⟨n0, n1, n2, ao, m, cap, b, off, cs, rfl, hl, hnil, hx⟩ := open_counts (hval 0 26 v0 rfl rfl) h0
  refine (exacts_walk awake_any b off cap m n0 n1 n2 ao cs W hl hnil hx).mono fun e W' ⟨he, bel⟩ => ?_
  subst he
  exact ⟨_, rfl, _, _, _, [], _, [], hW', trodAll_mk1 (shut_bool Tryz.underlying4 _), (trodAll_mk1 (Below.trod Tryz.laidOut (by kernel_rfl) (of_decide_eq_true (by kernel_rfl)) h0k bel lt0)), rfl, bel.frame _, fun h => by cases h⟩

/-- THE STATEMENT. -/
theorem pattersonExacts_holds : Rows.PattersonExactsSaid :=
  OpenClaim.holds_of_wide 3 Tryz.f3 rfl rfl rfl rfl rfl rfl rfl ⟨rfl, rfl, rfl, rfl, rfl⟩ rfl rfl rfl rfl rfl (by kernel_rfl) Tryz.func3 (by kernel_rfl)
    (of_decide_eq_true (by kernel_rfl)) (by unfold Func.isWrapper; first | (rw [if_pos (by decide +kernel)]; kernel_rfl) | (rw [if_neg (by decide +kernel)]; exact ⟨rfl, rfl⟩))
    (fun os started H enc _ => pattersonExacts_lifted os started H enc)

end Go.Proofs.YtehiabiahipkhaaGreat
