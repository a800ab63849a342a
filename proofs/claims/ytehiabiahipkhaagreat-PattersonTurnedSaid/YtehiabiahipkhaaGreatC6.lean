/-
  The walks of slices.SortFunc, slices.Clone, pairs.sorted and pairs.Order at the two waves.
  The walk of patterson.Map at the two waves, first part.
-/
import Derived.Test.YtehiabiahipkhaaGreatC5
import Derived.Laws.AppendOwn
import Derived.Laws.OwnMore
import Derived.Test.YtehiabiahipkhaaGreatB3
namespace Go.Proofs.YtehiabiahipkhaaGreat
open Go.RowKit
set_option linter.unusedVariables false
set_option linter.unusedSimpArgs false

abbrev waveV (a b c : Int) (x y : Nat) : Value := .agg #[.int .i64 a, .int .i64 b, .int .i64 c, .complex .f64 x y]

set_option maxHeartbeats 4000000 in
theorem wless_two (w : World) : Calls Tryz.prog 86 #[waveV 0 0 1 0 4607182418800017408, waveV 0 0 0 4611686018427387904 0] w fun e w' => e = .returned (.int .i64 1) ∧ Bel w w' := by
  have HB : Hid (Bel w ((w.alloc (.cells #[.int .i64 0, .int .i64 0, .int .i64 1, .complex .f64 0 4607182418800017408] 74)).alloc (.cells #[.int .i64 0, .int .i64 0, .int .i64 0, .complex .f64 4611686018427387904 0] 74))) := ((Bel.refl w).alloc _).alloc _
  have HC := Lib.hid hcompare_two
  go_enter Tryz.func86, Tryz.ntmps86
  go_wp2_with fail
  generalize World.alloc _ _ = W at HB ⊢
  refine (HC.out _).mono ?_
  rintro e w1 ⟨rfl, hb1⟩
  have HB1 := Lib.hid (HB.out.trans hb1)
  clear hb1
  go_wp2_with fail
  go_ret
  exact ⟨rfl, HB1.out⟩

set_option maxHeartbeats 4000000 in
set_option maxRecDepth 100000 in
theorem winssort_two (g k : Nat) (w : World) (hx : TwoW w g) : Calls Tryz.prog 105 #[.slice (some ⟨g, 0, none⟩) 2 k, .int .i64 0, .int .i64 2, .func (.func 86) #[] #[]] w fun e w' => e = .returned (.tuple #[]) ∧ Bel w w' := by
  have HC := Lib.hid wless_two
  have HX := Lib.hid hx
  clear hx
  go_enter Tryz.func105, Tryz.ntmps105
  go_wp2_with fail
  refine wp_loop_rounds 2 ?_
  rw [rounds_succ]
  go_wp2_with fail
  refine wp_loop_rounds 2 ?_
  rw [rounds_succ]
  go_wp2_with fail
  have c0 : ∀ v : In w, v.w.cell? ⟨g, 0, none⟩ = some (.int .i64 0) := In.cellv HX.out.1.1
  have c1 : ∀ v : In w, v.w.cell? ⟨g, 1, none⟩ = some (.int .i64 0) := In.cellv HX.out.1.2.1
  have c2 : ∀ v : In w, v.w.cell? ⟨g, 2, none⟩ = some (.int .i64 0) := In.cellv HX.out.1.2.2.1
  have c3 : ∀ v : In w, v.w.cell? ⟨g, 3, none⟩ = some (.complex .f64 4611686018427387904 0) := In.cellv HX.out.1.2.2.2
  have c4 : ∀ v : In w, v.w.cell? ⟨g, 4, none⟩ = some (.int .i64 0) := In.cellv HX.out.2.1
  have c5 : ∀ v : In w, v.w.cell? ⟨g, 5, none⟩ = some (.int .i64 0) := In.cellv HX.out.2.2.1
  have c6 : ∀ v : In w, v.w.cell? ⟨g, 6, none⟩ = some (.int .i64 1) := In.cellv HX.out.2.2.2.1
  have c7 : ∀ v : In w, v.w.cell? ⟨g, 7, none⟩ = some (.complex .f64 0 4607182418800017408) := In.cellv HX.out.2.2.2.2
  refine wp_in (by kernel_rfl) (by kernel_rfl) ?_
  repeat (go_big_quiet_step ((go_at_call 86; exact Calls.in_of (HC.out _))))
  refine wpQuiet_nil ?_
  intro v1
  have HB1 := Lib.hid v1.h
  clear c0 c1 c2 c3 c4 c5 c6 c7
  generalize v1.w = W1 at HB1 ⊢
  go_wp2_with fail
  rw [rounds_succ]
  go_wp2_with fail
  go_end0
  exact ⟨rfl, HB1.out⟩

set_option maxHeartbeats 4000000 in
set_option maxRecDepth 100000 in
theorem wpdq_two (g k : Nat) (w : World) (hx : TwoW w g) : Calls Tryz.prog 94 #[.slice (some ⟨g, 0, none⟩) 2 k, .int .i64 0, .int .i64 2, .int .i64 2, .func (.func 86) #[] #[]] w fun e w' => e = .returned (.tuple #[]) ∧ Bel w w' := by
  have HC := Lib.hid (winssort_two g k w hx)
  clear hx
  go_enter Tryz.func94, Tryz.ntmps94
  go_wp2_with fail
  refine wp_loop_rounds 1 ?_
  rw [rounds_succ]
  go_wp2_with fail
  refine HC.out.mono ?_
  rintro e w1 ⟨rfl, hb1⟩
  have HB1 := Lib.hid hb1
  clear hb1
  go_wp2_with fail
  (try simp only [Exit.inBlock, Exit.then])
  refine bodyPost_ret (results_none rfl _ _ _) rfl ?_
  exact ⟨rfl, HB1.out⟩

set_option maxHeartbeats 4000000 in
theorem wsort_two (g k : Nat) (w : World) (hx : TwoW w g) : Calls Tryz.prog 85 #[.slice (some ⟨g, 0, none⟩) 2 k, .func (.func 86) #[] #[]] w fun e w' => e = .returned (.tuple #[]) ∧ Bel w w' := by
  have HC := Lib.hid (wpdq_two g k w hx)
  have HL := Lib.hid len_two
  clear hx
  go_enter Tryz.func85, Tryz.ntmps85
  go_wp2_with fail
  refine (HL.out _).mono ?_
  rintro e w1 ⟨rfl, rfl⟩
  go_wp2_with fail
  refine HC.out.mono ?_
  rintro e w1 ⟨rfl, hb1⟩
  have HB1 := Lib.hid hb1
  clear hb1
  go_wp2_with fail
  go_end0
  exact ⟨rfl, HB1.out⟩

theorem info_wave : (Tryz.prog.info? 74).map (fun i => (i.zero, i.size, i.bytes)) = some (some (.agg #[.int .i64 0, .int .i64 0, .int .i64 0, .complex .f64 0 0]), 4, 40) := by kernel_rfl
/-- The cells of the two waves. -/
def twoL : List Value := [.int .i64 0, .int .i64 0, .int .i64 0, .complex .f64 4611686018427387904 0, .int .i64 0, .int .i64 0, .int .i64 1, .complex .f64 0 4607182418800017408]
theorem twoL_one : ∀ u ∈ twoL, u.oneCell' = true := fun u hu => by
  simp only [twoL, List.mem_cons, List.not_mem_nil, or_false] at hu
  rcases hu with rfl | rfl | rfl | rfl | rfl | rfl | rfl | rfl <;> rfl
theorem TwoW.cells {W : World} {b : Nat} (h : TwoW W b) : ∀ j u, twoL[j]? = some u → W.cell? ((⟨b, 0, none⟩ : Addr).add j) = some u := fun j u hj => by
  have hl : j < 8 := (List.getElem?_eq_some_iff.1 hj).1
  have hadd : (⟨b, 0, none⟩ : Addr).add j = ⟨b, j, none⟩ := by unfold Addr.add; split <;> simp_all
  rw [hadd]
  obtain ⟨⟨h0, h1, h2, h3⟩, h4, h5, h6, h7⟩ := h
  rcases (by omega : j = 0 ∨ j = 1 ∨ j = 2 ∨ j = 3 ∨ j = 4 ∨ j = 5 ∨ j = 6 ∨ j = 7) with rfl | rfl | rfl | rfl | rfl | rfl | rfl | rfl
  · exact h0.trans hj
  · exact h1.trans hj
  · exact h2.trans hj
  · exact h3.trans hj
  · exact h4.trans hj
  · exact h5.trans hj
  · exact h6.trans hj
  · exact h7.trans hj

@[go_sem] theorem wslice_some (a : Addr) (n c : Nat) (w : World) : (binOp .eql 75 (.slice (some a) n c) (.slice none 0 0)).run Tryz.prog w = .ok (.bool false) w := by kernel_rfl

set_option maxHeartbeats 4000000 in
set_option maxRecDepth 100000 in
theorem wclone_two (b : Nat) (w : World) (hx : TwoW w b) : Calls Tryz.prog 84 #[.slice (some ⟨b, 0, none⟩) 2 2] w fun e w' => (∃ g k, e = .returned (.slice (some ⟨g, 0, none⟩) 2 k) ∧ TwoW w' g) ∧ Bel w w' := by
  obtain ⟨i0, hi, hz0, hz1, hz2⟩ : ∃ i, Tryz.prog.info? 74 = some i ∧ i.zero = some (.agg #[.int .i64 0, .int .i64 0, .int .i64 0, .complex .f64 0 0]) ∧ i.size = 4 ∧ i.bytes = 40 := by
    have k2 := info_wave
    cases hh : Tryz.prog.info? 74 with
    | none => rw [hh] at k2; cases k2
    | some i => rw [hh] at k2; simp at k2; exact ⟨i, rfl, k2⟩
  have HX := Lib.hid hx
  have HI := Lib.hid (And.intro hi (And.intro hz0 (And.intro hz1 hz2)))
  clear hx hi hz0 hz1 hz2
  have HB : Hid (Bel w (w.alloc (.cells #[] 74))) := (Bel.refl w).alloc _
  have HO : Hid ((w.alloc (.cells #[] 74)).ownsRow w.heap.size 74 4 (.slice (some ⟨w.heap.size, 0, none⟩) 0 0) 0 []) :=
    World.ownsRow_lit (base := w.heap.size) (size := 4) (e := 74) w #[] 0 (Nat.le_refl _) (by unfold maxLen; omega) rfl
  go_enter Tryz.func84, Tryz.ntmps84
  obtain ⟨hi, hz0, hz1, hz2⟩ := HI.out
  go_wp2_with (first
    | (at_builtin; generalize World.alloc _ _ = W at HB HO ⊢; refine wpList_append_own _ rfl _ _ 75 rfl w.heap.size 74 i0 _ 4 40 Tryz.underlying75 hi hz0 hz1 hz2 rfl (by decide) (.slice (some ⟨w.heap.size, 0, none⟩) 0 0) 0 [] rfl HO.out ⟨b, 0, none⟩ 2 2 twoL rfl rfl (HX.out.bel HB.out).cells twoL_one (by unfold maxLen; omega) (by omega) HB.out.size ?_)
    | fail)
  intro v1 w1 hown hgr _
  have HB1 : Hid (Bel w w1) := Below.grown HB.out hgr HB.out.size (fun q hq => (HO.out.lt q hq).1)
  have hown2 : w1.ownsRow w.heap.size 74 4 v1 2 twoL := by simpa using hown
  obtain ⟨g, k, rfl, HT⟩ : ∃ g k, v1 = .slice (some ⟨g, 0, none⟩) 2 k ∧ Hid (TwoW w1 g) := by
    rcases hown2.2 with ⟨_, h⟩ | ⟨g, cap, cur, rfl, _⟩
    · omega
    · have c := fun j (hj : j < 2 * 4) => World.ownsRow.cellAt hown2 j hj
      exact ⟨g, cap, rfl, ⟨⟨c 0 (by omega), c 1 (by omega), c 2 (by omega), c 3 (by omega)⟩, c 4 (by omega), c 5 (by omega), c 6 (by omega), c 7 (by omega)⟩⟩
  clear hown hgr hown2 hi hz0 hz1 hz2
  go_wp2_with fail
  go_ret
  exact ⟨⟨g, k, rfl, HT.out⟩, HB1.out⟩

set_option maxHeartbeats 4000000 in
theorem wsorted_two (b : Nat) (w : World) (hx : TwoW w b) : Calls Tryz.prog 65 #[.slice (some ⟨b, 0, none⟩) 2 2] w fun e w' => (∃ v, e = .returned v) ∧ Bel w w' := by
  have HC := Lib.hid (wclone_two b w hx)
  have HS := Lib.hid (fun g k W (h : TwoW W g) => wsort_two g k W h)
  clear hx
  go_enter Tryz.func65, Tryz.ntmps65
  go_wp2_with fail
  refine HC.out.mono ?_
  rintro e w1 ⟨⟨g, k, rfl, ht⟩, hb1⟩
  have HT := Lib.hid ht
  have HB1 := Lib.hid hb1
  clear ht hb1
  go_wp2_with fail
  refine (HS.out g k _ HT.out).mono ?_
  rintro e w2 ⟨rfl, hb2⟩
  have HB2 := Lib.hid (HB1.out.trans hb2)
  clear hb2
  go_wp2_with fail
  go_ret
  exact ⟨⟨_, rfl⟩, HB2.out⟩

set_option maxHeartbeats 4000000 in
theorem order_two (b : Nat) (w : World) (hx : TwoW w b) : Calls Tryz.prog 45 #[.slice (some ⟨b, 0, none⟩) 2 2] w fun e w' => (∃ v, e = .returned (.tuple #[v, .int .i64 0])) ∧ Bel w w' := by
  have HC := Lib.hid (pcheck_two b w hx)
  have HX := Lib.hid hx
  clear hx
  go_enter Tryz.func45, Tryz.ntmps45
  go_wp2_with fail
  refine HC.out.mono ?_
  rintro e w1 ⟨rfl, hb1⟩
  have HB1 := Lib.hid hb1
  clear hb1
  go_wp2_with fail
  refine (wsorted_two b _ (HX.out.bel HB1.out)).mono ?_
  rintro e w2 ⟨⟨v, rfl⟩, hb2⟩
  have HB2 := Lib.hid (HB1.out.trans hb2)
  clear hb2
  go_wp2_with fail
  go_ret2
  exact ⟨⟨v, rfl⟩, HB2.out⟩

end Go.Proofs.YtehiabiahipkhaaGreat

namespace Go.Proofs.YtehiabiahipkhaaGreat
open Go.RowKit
set_option linter.unusedVariables false
set_option linter.unusedSimpArgs false

theorem ilookup (W : World) (r : Nat) (es : Array MapEntry) (c : Nat) (k : Value) (hr : W.heap[r]? = some (.map es c))
    (hk : (Instr.checkKey es.isEmpty 10000 3 k).run Tryz.prog W = .ok () W) (hf : (Instr.findKey 3 k es.toList).run Tryz.prog W = .ok none W) :
    (Instr.lookup 93 (.map (some r)) k false).run Tryz.prog W = .ok (.int .i64 0) W := by
  have hz : (zeroValue 3).run Tryz.prog W = .ok (.int .i64 0) W := by kernel_rfl
  unfold Instr.lookup
  simp [run_underlying Tryz.underlying93, MapKept.run_getObj_map hr, hk, hf, hz, Result.andThen]
theorem imapUpdate (W : World) (r : Nat) (es : Array MapEntry) (c : Nat) (k v : Value) (hr : W.heap[r]? = some (.map es c))
    (hk : (Instr.checkKey false 10000 3 k).run Tryz.prog W = .ok () W) (hf : (Instr.findKey 3 k es.toList).run Tryz.prog W = .ok none W) :
    (Instr.mapUpdate 93 (.map (some r)) k v).run Tryz.prog W = .ok () (mapW W r (es.push { key := k, val := v, born := c }) (c + 1)) := by
  unfold Instr.mapUpdate mapW
  simp [run_underlying Tryz.underlying93, MapKept.run_getObj_map hr, MapKept.run_setObj_map _ hr, hk, hf, Result.andThen]
theorem ikey_ok (e : Bool) (x : Int) (W : World) : (Instr.checkKey e 10000 3 (.int .i64 x)).run Tryz.prog W = .ok () W := by kernel_rfl
theorem ifind_none (k : Value) (W : World) : (Instr.findKey 3 k (#[] : Array MapEntry).toList).run Tryz.prog W = .ok none W := by kernel_rfl
theorem ifind_1 (v : Value) (n : Nat) (W : World) : (Instr.findKey 3 (.int .i64 1) (#[{ key := .int .i64 0, val := v, born := n }] : Array MapEntry).toList).run Tryz.prog W = .ok none W := by kernel_rfl

theorem abs2_any (a1 a2 p q r : Nat) (w : World) (h1 : floatBits .mul .f64 a1 a1 = some p) (h2 : floatBits .mul .f64 a2 a2 = some q) (h3 : floatBits .add .f64 p q = some r) :
    Calls Tryz.prog 46 #[.complex .f64 a1 a2] w fun e w' => e = .returned (.float .f64 r) ∧ Bel w w' := by
  have o1 := fun t w => run_float_arith (P := Tryz.prog) w .mul t .f64 _ _ _ h1
  have o2 := fun t w => run_float_arith (P := Tryz.prog) w .mul t .f64 _ _ _ h2
  have o3 := fun t w => run_float_arith (P := Tryz.prog) w .add t .f64 _ _ _ h3
  clear h1 h2 h3
  go_enter Tryz.func46, Tryz.ntmps46
  go_wp2
  go_ret
  exact ⟨rfl, Bel.refl w⟩
theorem abs2_a (w : World) : Calls Tryz.prog 46 #[.complex .f64 4611686018427387904 0] w fun e w' => e = .returned (.float .f64 4616189618054758400) ∧ Bel w w' :=
  abs2_any _ _ 4616189618054758400 0 _ w (by kernel_rfl) (by kernel_rfl) (by kernel_rfl)
theorem abs2_b (w : World) : Calls Tryz.prog 46 #[.complex .f64 0 4607182418800017408] w fun e w' => e = .returned (.float .f64 4607182418800017408) ∧ Bel w w' :=
  abs2_any _ _ 0 4607182418800017408 _ w (by kernel_rfl) (by kernel_rfl) (by kernel_rfl)
theorem box_two : boxP undoneP 1 1 2 [(4616189618054758400, 0), (4607182418800017408, 0)] = some [(4612811918334230528, 0), (4609434218613702656, 0)] := by kernel_rfl

theorem side_two : SideE true 1 1 2 0 := by
  have key : ∀ n : Int, n = 1 ∨ n = 2 → ¬ badS true n := fun n hn h => by
    rcases hn with rfl | rfl <;> rcases h with h | h | ⟨_, h⟩ <;> first | omega | exact h (by decide)
  exact Or.inr (Or.inr ⟨key 1 (Or.inl rfl), key 1 (Or.inl rfl), key 2 (Or.inr rfl), by decide, rfl⟩)
theorem sides_two : Sides 1 1 2 := ⟨by omega, by omega, by omega, by omega, by omega, by omega, by decide, by decide, by decide, by omega⟩

/-- A new variable that holds a Grid of two noughts. -/
def MadeG (w0 wx : World) (v : Value) : Prop :=
  ∃ p gc, v = .pointer (some ⟨p, 0, none⟩) ∧ CVar wx p 1 1 2 (some ⟨gc, 0, none⟩) 2 2 ∧ CArr wx gc 2 [(0, 0), (0, 0)] ∧ Bel w0 wx ∧ w0.heap.size ≤ p ∧ w0.heap.size ≤ gc ∧ p ≠ gc
theorem garr_made (W : World) : CArr (W.alloc (.cells (madeCells #[.complex .f64 0 0] 2) 72)) W.heap.size 2 [(0, 0), (0, 0)] :=
  Arr.of_own (base := 0) (by
    have := World.ownsRow_lit (base := 0) (size := 1) (e := 72) W (madeCells #[.complex .f64 0 0] 2) 2 (Nat.zero_le _) (by unfold maxLen; omega) (by simp [madeCells])
    rw [toList_madeCells_one] at this
    simpa [List.replicate] using this)
theorem madeg1 (W : World) : MadeG W ((W.alloc (.cells (madeCells #[.complex .f64 0 0] 2) 72)).alloc (.cells #[.int .i64 1, .int .i64 1, .int .i64 2, .slice (some ⟨W.heap.size, 0, none⟩) 2 2] 69)).drew (.pointer (some ⟨W.heap.size + 1, 0, none⟩)) := by
  have hz : (W.alloc (.cells (madeCells #[.complex .f64 0 0] 2) 72)).heap.size = W.heap.size + 1 := size_alloc' _ _
  refine ⟨W.heap.size + 1, W.heap.size, rfl, ?_, ((garr_made W).alloc _).drew, (((Bel.refl W).alloc _).alloc _).drew, by omega, by omega, by omega⟩
  rw [← hz]
  exact cvar_new _ _ _ _ _ _ _ _
theorem madeg2 (W : World) : MadeG W ((W.alloc (.cells #[.int .i64 1, .int .i64 1, .int .i64 2, .slice (some ⟨W.heap.size + 1, 0, none⟩) 2 2] 69)).alloc (.cells (madeCells #[.complex .f64 0 0] 2) 72)).drew (.pointer (some ⟨W.heap.size, 0, none⟩)) := by
  have hz : (W.alloc (.cells #[.int .i64 1, .int .i64 1, .int .i64 2, .slice (some ⟨W.heap.size + 1, 0, none⟩) 2 2] 69)).heap.size = W.heap.size + 1 := size_alloc' _ _
  refine ⟨W.heap.size, W.heap.size + 1, rfl, (cvar_new W _ _ _ _ _ _ _).bel ((Bel.refl _).alloc _).drew, ?_, (((Bel.refl W).alloc _).alloc _).drew, by omega, by omega, by omega⟩
  have h := (garr_made (W.alloc (.cells #[.int .i64 1, .int .i64 1, .int .i64 2, .slice (some ⟨W.heap.size + 1, 0, none⟩) 2 2] 69))).drew
  rw [hz] at h
  exact h

set_option maxHeartbeats 8000000 in
set_option maxRecDepth 100000 in
theorem map_two (b : Nat) (w : World) (hx : TwoW w b) :
    Calls Tryz.prog 26 #[.slice (some ⟨b, 0, none⟩) 2 2, vecV 1 1 2] w fun e w' =>
      (∃ g c, e = .returned (.tuple #[countV 1 1 2 (some ⟨g, 0, none⟩) 2 c, .int .i64 0]) ∧ CArr w' g c [(4612811918334230528, 0), (4609434218613702656, 0)]) ∧ Bel w w' := by
  have HX := Lib.hid hx
  have HO := Lib.hid (fun (W : World) (h : Bel w W) => order_two b W (hx.bel h))
  clear hx
  have HB : Hid (Bel w ((w.alloc (.cells #[.int .i64 1, .int .i64 1, .int .i64 2] 23)).alloc (.cells #[.int .i64 0, .int .i64 0, .int .i64 0, .slice none 0 0] 69))) := ((Bel.refl w).alloc _).alloc _
  have z1 : (w.alloc (.cells #[.int .i64 1, .int .i64 1, .int .i64 2] 23)).heap.size = w.heap.size + 1 := size_alloc' _ _
  have K3 : Hid (I3 ((w.alloc (.cells #[.int .i64 1, .int .i64 1, .int .i64 2] 23)).alloc (.cells #[.int .i64 0, .int .i64 0, .int .i64 0, .slice none 0 0] 69)) w.heap.size 1 1 2) := (i3_new _ _ _ _ _).bel ((Bel.refl _).alloc _)
  have K4 : Hid (R4 ((w.alloc (.cells #[.int .i64 1, .int .i64 1, .int .i64 2] 23)).alloc (.cells #[.int .i64 0, .int .i64 0, .int .i64 0, .slice none 0 0] 69)) (w.heap.size + 1)) := by
    rw [← z1]; exact r4_new _ _ _ _ _ _
  clear z1
  go_enter Tryz.func26, Tryz.ntmps26
  go_wp2_with fail
  generalize World.alloc _ _ = W at HB K3 K4 ⊢
  have hw3 : w.heap.size < W.heap.size := by simpa using World.block_lt_of_cell? _ _ K3.out.1.1
  have hww : Hid (w.heap.size ≤ w.heap.size + 1) := Nat.le_succ _
  generalize hp3 : w.heap.size = p3 at K3 K4 hw3 hww ⊢
  have HP3 := Lib.hid hp3
  clear hp3
  refine (sides_any true 1 1 2 _).mono ?_
  rintro e w1 ⟨⟨z1, rfl, hz1⟩, hb1⟩
  obtain rfl := side_two.det hz1
  have HB1 := Lib.hid hb1
  clear hz1 hb1
  go_wp2_with fail
  refine (HO.out _ (HB.out.trans HB1.out)).mono ?_
  rintro e w2 ⟨⟨v, rfl⟩, hb2⟩
  have HB2 := Lib.hid (HB1.out.trans hb2)
  clear hb2 HB1
  obtain ⟨x0, x1, x2⟩ := (K3.out.bel HB2.out).1
  go_wp2_with fail
  have hmk : ∀ W : World, (Instr.makeSlice 67 (.int .i64 2) (.int .i64 2)).run Tryz.prog W = .ok (.slice (some ⟨W.heap.size, 0, none⟩) 2 2) (W.alloc (.cells (madeCells #[.complex .f64 0 0] 2) 72)) := by
    obtain ⟨j0, hj, hj0, hj1, hj2⟩ := info_parts info_c
    intro W
    have := run_make (P := Tryz.prog) W 67 72 j0 _ Tryz.underlying67 hj hj0 .i64 .i64 2 2 (by omega) (by omega) (by rw [hj2]; omega) (by omega)
    rw [hj1, Nat.mul_one] at this
    exact this
  have hp3l : p3 < w2.heap.size := by have := HB2.out.size; omega
  have hp3m : p3 < w2.heap.size + 1 := by omega
  go_cut [9] from 37 to 47 (fun s9 wx => MadeG w2 wx s9)
  case first =>
    go_region
    all_goals (
      go_wp2_with fail
      go_meet
      first | exact madeg1 _ | exact madeg2 _)
  case rest =>
    obtain ⟨p9, gc, rfl, hcv, hic, hb9, hlp, hlg, hne⟩ := hcut
    have HB9 := Lib.hid (HB2.out.trans hb9)
    have HKC := Lib.hid hcv
    have HVC := Lib.hid hic
    clear x0 x1 x2 hcv hic hb9 hmk
    go_wp2_with fail
    rw [run_makeMap']
    simp only [Result.andThen]
    rw [Oper.upon_value]
    have hwcs : W.heap.size ≤ wc.heap.size := HB9.out.size
    have HBA : Hid (Bel w (wc.alloc (.map #[] 0))) := (HB.out.trans HB9.out).alloc _
    have HMA : Hid ((wc.alloc (.map #[] 0)).heap[wc.heap.size]? = some (.map #[] 0)) := map_new wc
    have HPA : Hid ((wc.alloc (.map #[] 0)).cell? ⟨p3, 0, none⟩ = some (.int .i64 1) ∧ (wc.alloc (.map #[] 0)).cell? ⟨p3, 1, none⟩ = some (.int .i64 1) ∧ (wc.alloc (.map #[] 0)).cell? ⟨p3, 2, none⟩ = some (.int .i64 2)) := (K3.out.bel (HB9.out.alloc _)).1
    have HKA : Hid (CVar (wc.alloc (.map #[] 0)) p9 1 1 2 (some ⟨gc, 0, none⟩) 2 2) := HKC.out.bel ((Bel.refl wc).alloc _)
    have HVA : Hid (CArr (wc.alloc (.map #[] 0)) gc 2 [(0, 0), (0, 0)]) := HVC.out.alloc _
    have HRA : Hid (R4 (wc.alloc (.map #[] 0)) (p3 + 1)) := K4.out.bel (HB9.out.alloc _)
    have hral : wc.heap.size < (wc.alloc (.map #[] 0)).heap.size := by rw [size_alloc']; omega
    have hp9l : p9 < wc.heap.size := by simpa using World.block_lt_of_cell? _ _ HKC.out.1
    have hgcl : gc < wc.heap.size := HVC.out.lt
    have hp4l : p3 + 1 < W.heap.size := by simpa using World.block_lt_of_cell? _ _ (K4.out 0 (by omega)).1
    have hw2W : W.heap.size ≤ w2.heap.size := HB2.out.size
    have hwr : w.heap.size ≤ wc.heap.size := by have := HB.out.size; omega
    have hwg : w.heap.size ≤ gc := by have := HB.out.size; omega
    have hp3r : p3 ≠ wc.heap.size := by omega
    have hp4r : p3 + 1 ≠ wc.heap.size := by omega
    have hp9r : p9 ≠ wc.heap.size := by omega
    have hgcr : gc ≠ wc.heap.size := by omega
    have hrg : wc.heap.size ≠ gc := by omega
    have hp3g : p3 ≠ gc := by omega
    have hp4g : p3 + 1 ≠ gc := by omega
    clear HKC HVC
    generalize World.alloc _ _ = wa at HBA HMA HPA HKA HVA HRA hral ⊢
    generalize wc.heap.size = r at *
    go_wp2_with fail
    refine wp_loop_rounds 3 ?_

    -- wave 0
    rw [rounds_succ]
    have hbl : b < wa.heap.size := by have := (HX.out.bel (HBA.out)).1.1; simpa using World.block_lt_of_cell? _ _ this
    obtain ⟨⟨x0, x1, x2, x3⟩, x4, x5, x6, x7⟩ := HX.out.bel HBA.out
    go_wp2_with fail
    clear x0 x1 x2 x3 x4 x5 x6 x7 hbl
    have HB5 : Hid (Bel wa (wa.alloc (.cells #[.int .i64 0, .int .i64 0, .int .i64 0, .complex .f64 4611686018427387904 0] 74))) := (Bel.refl wa).alloc _
    have HC5 : Hid ((wa.alloc (.cells #[.int .i64 0, .int .i64 0, .int .i64 0, .complex .f64 4611686018427387904 0] 74)).cell? ⟨wa.heap.size, 0, none⟩ = some (.int .i64 0) ∧ (wa.alloc (.cells #[.int .i64 0, .int .i64 0, .int .i64 0, .complex .f64 4611686018427387904 0] 74)).cell? ⟨wa.heap.size, 1, none⟩ = some (.int .i64 0) ∧ (wa.alloc (.cells #[.int .i64 0, .int .i64 0, .int .i64 0, .complex .f64 4611686018427387904 0] 74)).cell? ⟨wa.heap.size, 2, none⟩ = some (.int .i64 0) ∧ (wa.alloc (.cells #[.int .i64 0, .int .i64 0, .int .i64 0, .complex .f64 4611686018427387904 0] 74)).cell? ⟨wa.heap.size, 3, none⟩ = some (.complex .f64 4611686018427387904 0)) := ⟨cell_new _ _ _ 0, cell_new _ _ _ 1, cell_new _ _ _ 2, cell_new _ _ _ 3⟩
    generalize World.alloc _ _ = w5 at HB5 HC5 ⊢
    have hq5r : wa.heap.size ≠ r := by omega
    have hq5g : wa.heap.size ≠ gc := by have := HVA.out.lt; omega
    generalize wa.heap.size = q5 at HC5 hq5r hq5g ⊢
    have c0 : ∀ v : In w5, v.w.cell? ⟨p3, 0, none⟩ = some (.int .i64 1) := In.cellv (HB5.out.cellv HPA.out.1)
    have c1 : ∀ v : In w5, v.w.cell? ⟨p3, 1, none⟩ = some (.int .i64 1) := In.cellv (HB5.out.cellv HPA.out.2.1)
    have c2 : ∀ v : In w5, v.w.cell? ⟨p3, 2, none⟩ = some (.int .i64 2) := In.cellv (HB5.out.cellv HPA.out.2.2)
    have c4 : ∀ v : In w5, v.w.cell? ⟨q5, 0, none⟩ = some (.int .i64 0) := In.cellv HC5.out.1
    have c5 : ∀ v : In w5, v.w.cell? ⟨q5, 1, none⟩ = some (.int .i64 0) := In.cellv HC5.out.2.1
    have c6 : ∀ v : In w5, v.w.cell? ⟨q5, 2, none⟩ = some (.int .i64 0) := In.cellv HC5.out.2.2.1
    have HWI : Hid (∀ W : World, Calls Tryz.prog 31 #[vecV 1 1 2, vecV 0 0 0] W fun e w' => e = .returned (vecV 0 0 0) ∧ Bel W w') := fun W => within_any 1 1 2 0 0 0 W (by omega) (by omega) (by omega) (by decide) (by decide) (by decide)
    have HNU : Hid (∀ W : World, Calls Tryz.prog 30 #[vecV 1 1 2, vecV 0 0 0] W fun e w' => e = .returned (.int .i64 0) ∧ Bel W w') := fun W => number_any 0 0 0 1 1 2 W (by omega) (by omega) (by omega) (by omega) (by omega) (by omega)
    refine wp_in (by kernel_rfl) (by kernel_rfl) ?_
    repeat (go_big_quiet_step (first | (go_at_call 31; exact Calls.in_of (HWI.out _)) | (go_at_call 30; exact Calls.in_of (HNU.out _))))
    refine wpQuiet_nil ?_
    intro v6
    have HB6 := Lib.hid (HB5.out.trans v6.h)
    have HC6 : Hid (v6.w.cell? ⟨q5, 3, none⟩ = some (.complex .f64 4611686018427387904 0)) := v6.h.cellv HC5.out.2.2.2
    clear c0 c1 c2 c4 c5 c6
    generalize v6.w = w6 at HB6 HC6 ⊢
    have hr6 : w6.heap[r]? = some (.map #[] 0) := (HB6.out.block r hral).trans HMA.out
    have hr6l : r < w6.heap.size := (Array.getElem?_eq_some_iff.1 hr6).1
    have e1 : (Instr.lookup 93 (.map (some r)) (.int .i64 0) false).run Tryz.prog w6 = .ok (.int .i64 0) w6 := ilookup _ _ _ _ _ hr6 (ikey_ok _ _ _) (ifind_none _ _)
    have e2 : (Instr.mapUpdate 93 (.map (some r)) (.int .i64 0) (.int .i64 1)).run Tryz.prog w6 = .ok () (mapW w6 r #[{ key := .int .i64 0, val := .int .i64 1, born := 0 }] 1) := imapUpdate _ _ _ _ _ _ hr6 (ikey_ok _ _ _) (ifind_none _ _)
    have HM7 := Lib.hid (mapW_heap hr6l #[{ key := .int .i64 0, val := .int .i64 1, born := 0 }] 1)
    have HL7 : Hid ((mapW w6 r #[{ key := .int .i64 0, val := .int .i64 1, born := 0 }] 1).heap.size = w6.heap.size) := mapW_size _ _ _ _
    have HB7 : Hid (Bel w (mapW w6 r #[{ key := .int .i64 0, val := .int .i64 1, born := 0 }] 1)) := (HBA.out.trans HB6.out).mapW hwr _ _
    have HC7 : Hid ((mapW w6 r #[{ key := .int .i64 0, val := .int .i64 1, born := 0 }] 1).cell? ⟨q5, 3, none⟩ = some (.complex .f64 4611686018427387904 0)) := mapW_cell HC6.out hq5r
    have HP7 : Hid ((mapW w6 r #[{ key := .int .i64 0, val := .int .i64 1, born := 0 }] 1).cell? ⟨p3, 0, none⟩ = some (.int .i64 1) ∧ (mapW w6 r #[{ key := .int .i64 0, val := .int .i64 1, born := 0 }] 1).cell? ⟨p3, 1, none⟩ = some (.int .i64 1) ∧ (mapW w6 r #[{ key := .int .i64 0, val := .int .i64 1, born := 0 }] 1).cell? ⟨p3, 2, none⟩ = some (.int .i64 2)) := ⟨mapW_cell (HB6.out.cellv HPA.out.1) hp3r, mapW_cell (HB6.out.cellv HPA.out.2.1) hp3r, mapW_cell (HB6.out.cellv HPA.out.2.2) hp3r⟩
    have HK7 : Hid (CVar (mapW w6 r #[{ key := .int .i64 0, val := .int .i64 1, born := 0 }] 1) p9 1 1 2 (some ⟨gc, 0, none⟩) 2 2) := ⟨mapW_cell (HB6.out.cellv HKA.out.1) hp9r, mapW_cell (HB6.out.cellv HKA.out.2.1) hp9r, mapW_cell (HB6.out.cellv HKA.out.2.2.1) hp9r, mapW_cell (HB6.out.cellv HKA.out.2.2.2) hp9r⟩
    have HV7 : Hid (CArr (mapW w6 r #[{ key := .int .i64 0, val := .int .i64 1, born := 0 }] 1) gc 2 [(0, 0), (0, 0)]) := (HVA.out.bel HB6.out).kept (mapW_other _ _ _ _ _ hgcr)
    have HR7 : Hid (R4 (mapW w6 r #[{ key := .int .i64 0, val := .int .i64 1, born := 0 }] 1) (p3 + 1)) := fun i hi => by
      have h := (HRA.out.bel HB6.out) i hi
      exact ⟨cellD_eq (mapW_cell h.1 hp4r), (World.frozen?_of_block (w := w6) (mapW_other w6 r _ _ (p3 + 1) hp4r)).trans h.2⟩
    go_wp2_with fail
    clear e1 e2 hr6 HBA HPA HKA HVA HMA HRA
    generalize mapW _ _ _ _ = w7 at HM7 HL7 HB7 HC7 HP7 HK7 HV7 HR7 ⊢
    have c0 : ∀ v : In w7, v.w.cell? ⟨p9, 3, none⟩ = some (.slice (some ⟨gc, 0, none⟩) 2 2) := In.cellv HK7.out.2.2.2
    have c1 : ∀ v : In w7, v.w.cell? ⟨q5, 3, none⟩ = some (.complex .f64 4611686018427387904 0) := In.cellv HC7.out
    have hgz : w7.cell? ⟨gc, 0, none⟩ = some (cVal (0, 0)) := HV7.out.cell (i := 0) (by decide) (0, 0)
    have HAB := Lib.hid abs2_a
    refine wp_in_tail 8 (by kernel_rfl) (by kernel_rfl) ?_
    simp only [List.take_succ_cons, List.take_zero, List.drop_succ_cons, List.drop_zero]
    repeat (go_big_quiet_step ((go_at_call 46; exact Calls.in_of (HAB.out _))))
    refine wpQuiet_nil ?_
    intro v8
    have hg8 := v8.h.cellv hgz
    have hf8 : v8.w.frozen? ⟨gc, 0, none⟩ = false := (HV7.out.bel v8.h).frozen 0
    have HB8 : Hid (Bel w (v8.w.setCell ⟨gc, 0, none⟩ (cVal (4616189618054758400, 0)))) := (HB7.out.trans v8.h).setCell hwg _
    have HP8 : Hid ((v8.w.setCell ⟨gc, 0, none⟩ (cVal (4616189618054758400, 0))).cell? ⟨p3, 0, none⟩ = some (.int .i64 1) ∧ (v8.w.setCell ⟨gc, 0, none⟩ (cVal (4616189618054758400, 0))).cell? ⟨p3, 1, none⟩ = some (.int .i64 1) ∧ (v8.w.setCell ⟨gc, 0, none⟩ (cVal (4616189618054758400, 0))).cell? ⟨p3, 2, none⟩ = some (.int .i64 2)) := ⟨cell_far (v8.h.cellv HP7.out.1) hp3g, cell_far (v8.h.cellv HP7.out.2.1) hp3g, cell_far (v8.h.cellv HP7.out.2.2) hp3g⟩
    have HK8 : Hid (CVar (v8.w.setCell ⟨gc, 0, none⟩ (cVal (4616189618054758400, 0))) p9 1 1 2 (some ⟨gc, 0, none⟩) 2 2) := (HK7.out.bel v8.h).far hne _
    have HV8 : Hid (CArr (v8.w.setCell ⟨gc, 0, none⟩ (cVal (4616189618054758400, 0))) gc 2 [(4616189618054758400, 0), (0, 0)]) := (HV7.out.bel v8.h).store 0 (4616189618054758400, 0)
    have HM8 : Hid ((v8.w.setCell ⟨gc, 0, none⟩ (cVal (4616189618054758400, 0))).heap[r]? = some (.map #[{ key := .int .i64 0, val := .int .i64 1, born := 0 }] 1)) := (Below.heap_setCell _ _ _ _ hrg).trans ((v8.h.block r (by rw [HL7.out]; exact hr6l)).trans HM7.out)
    have HR8 : Hid (R4 (v8.w.setCell ⟨gc, 0, none⟩ (cVal (4616189618054758400, 0))) (p3 + 1)) := fun i hi => by
      have h := (HR7.out.bel v8.h) i hi
      exact ⟨cellD_eq (cell_far h.1 hp4g), by simpa using h.2⟩
    clear c0 c1 HM7 HL7 HB7 HC7 HP7 HK7 HV7 HR7 hral hgz
    go_wp2_with fail
    generalize World.setCell _ _ _ = wb at HB8 HP8 HK8 HV8 HM8 HR8 ⊢
    clear hg8 hf8
    have hral : r < wb.heap.size := (Array.getElem?_eq_some_iff.1 HM8.out).1
    clear hr6l
    obtain ⟨HBA, HPA, HKA, HVA, HMA, HRA⟩ : Hid (Bel w wb) ∧ Hid (wb.cell? ⟨p3, 0, none⟩ = some (.int .i64 1) ∧ wb.cell? ⟨p3, 1, none⟩ = some (.int .i64 1) ∧ wb.cell? ⟨p3, 2, none⟩ = some (.int .i64 2)) ∧ Hid (CVar wb p9 1 1 2 (some ⟨gc, 0, none⟩) 2 2) ∧ Hid (CArr wb gc 2 [(4616189618054758400, 0), (0, 0)]) ∧ Hid (wb.heap[r]? = some (.map #[{ key := .int .i64 0, val := .int .i64 1, born := 0 }] 1)) ∧ Hid (R4 wb (p3 + 1)) := ⟨HB8, HP8, HK8, HV8, HM8, HR8⟩
    clear HB8 HP8 HK8 HV8 HM8 HR8
    obtain ⟨wa, rfl⟩ : ∃ wa : World, wa = wb := ⟨_, rfl⟩
    -- wave 1
    rw [rounds_succ]
    have hbl : b < wa.heap.size := by have := (HX.out.bel (HBA.out)).1.1; simpa using World.block_lt_of_cell? _ _ this
    obtain ⟨⟨x0, x1, x2, x3⟩, x4, x5, x6, x7⟩ := HX.out.bel HBA.out
    go_wp2_with fail
    clear x0 x1 x2 x3 x4 x5 x6 x7 hbl
    have HB5 : Hid (Bel wa (wa.alloc (.cells #[.int .i64 0, .int .i64 0, .int .i64 1, .complex .f64 0 4607182418800017408] 74))) := (Bel.refl wa).alloc _
    have HC5 : Hid ((wa.alloc (.cells #[.int .i64 0, .int .i64 0, .int .i64 1, .complex .f64 0 4607182418800017408] 74)).cell? ⟨wa.heap.size, 0, none⟩ = some (.int .i64 0) ∧ (wa.alloc (.cells #[.int .i64 0, .int .i64 0, .int .i64 1, .complex .f64 0 4607182418800017408] 74)).cell? ⟨wa.heap.size, 1, none⟩ = some (.int .i64 0) ∧ (wa.alloc (.cells #[.int .i64 0, .int .i64 0, .int .i64 1, .complex .f64 0 4607182418800017408] 74)).cell? ⟨wa.heap.size, 2, none⟩ = some (.int .i64 1) ∧ (wa.alloc (.cells #[.int .i64 0, .int .i64 0, .int .i64 1, .complex .f64 0 4607182418800017408] 74)).cell? ⟨wa.heap.size, 3, none⟩ = some (.complex .f64 0 4607182418800017408)) := ⟨cell_new _ _ _ 0, cell_new _ _ _ 1, cell_new _ _ _ 2, cell_new _ _ _ 3⟩
    generalize World.alloc _ _ = w5 at HB5 HC5 ⊢
    have hq5r : wa.heap.size ≠ r := by omega
    have hq5g : wa.heap.size ≠ gc := by have := HVA.out.lt; omega
    generalize wa.heap.size = q5 at HC5 hq5r hq5g ⊢
    have c0 : ∀ v : In w5, v.w.cell? ⟨p3, 0, none⟩ = some (.int .i64 1) := In.cellv (HB5.out.cellv HPA.out.1)
    have c1 : ∀ v : In w5, v.w.cell? ⟨p3, 1, none⟩ = some (.int .i64 1) := In.cellv (HB5.out.cellv HPA.out.2.1)
    have c2 : ∀ v : In w5, v.w.cell? ⟨p3, 2, none⟩ = some (.int .i64 2) := In.cellv (HB5.out.cellv HPA.out.2.2)
    have c4 : ∀ v : In w5, v.w.cell? ⟨q5, 0, none⟩ = some (.int .i64 0) := In.cellv HC5.out.1
    have c5 : ∀ v : In w5, v.w.cell? ⟨q5, 1, none⟩ = some (.int .i64 0) := In.cellv HC5.out.2.1
    have c6 : ∀ v : In w5, v.w.cell? ⟨q5, 2, none⟩ = some (.int .i64 1) := In.cellv HC5.out.2.2.1
    have HWI : Hid (∀ W : World, Calls Tryz.prog 31 #[vecV 1 1 2, vecV 0 0 1] W fun e w' => e = .returned (vecV 0 0 1) ∧ Bel W w') := fun W => within_any 1 1 2 0 0 1 W (by omega) (by omega) (by omega) (by decide) (by decide) (by decide)
    have HNU : Hid (∀ W : World, Calls Tryz.prog 30 #[vecV 1 1 2, vecV 0 0 1] W fun e w' => e = .returned (.int .i64 1) ∧ Bel W w') := fun W => number_any 0 0 1 1 1 2 W (by omega) (by omega) (by omega) (by omega) (by omega) (by omega)
    refine wp_in (by kernel_rfl) (by kernel_rfl) ?_
    repeat (go_big_quiet_step (first | (go_at_call 31; exact Calls.in_of (HWI.out _)) | (go_at_call 30; exact Calls.in_of (HNU.out _))))
    refine wpQuiet_nil ?_
    intro v6
    have HB6 := Lib.hid (HB5.out.trans v6.h)
    have HC6 : Hid (v6.w.cell? ⟨q5, 3, none⟩ = some (.complex .f64 0 4607182418800017408)) := v6.h.cellv HC5.out.2.2.2
    clear c0 c1 c2 c4 c5 c6
    generalize v6.w = w6 at HB6 HC6 ⊢
    have hr6 : w6.heap[r]? = some (.map #[{ key := .int .i64 0, val := .int .i64 1, born := 0 }] 1) := (HB6.out.block r hral).trans HMA.out
    have hr6l : r < w6.heap.size := (Array.getElem?_eq_some_iff.1 hr6).1
    have e1 : (Instr.lookup 93 (.map (some r)) (.int .i64 1) false).run Tryz.prog w6 = .ok (.int .i64 0) w6 := ilookup _ _ _ _ _ hr6 (ikey_ok _ _ _) (ifind_1 _ _ _)
    have e2 : (Instr.mapUpdate 93 (.map (some r)) (.int .i64 1) (.int .i64 1)).run Tryz.prog w6 = .ok () (mapW w6 r #[{ key := .int .i64 0, val := .int .i64 1, born := 0 }, { key := .int .i64 1, val := .int .i64 1, born := 1 }] 2) := imapUpdate _ _ _ _ _ _ hr6 (ikey_ok _ _ _) (ifind_1 _ _ _)
    have HM7 := Lib.hid (mapW_heap hr6l #[{ key := .int .i64 0, val := .int .i64 1, born := 0 }, { key := .int .i64 1, val := .int .i64 1, born := 1 }] 2)
    have HL7 : Hid ((mapW w6 r #[{ key := .int .i64 0, val := .int .i64 1, born := 0 }, { key := .int .i64 1, val := .int .i64 1, born := 1 }] 2).heap.size = w6.heap.size) := mapW_size _ _ _ _
    have HB7 : Hid (Bel w (mapW w6 r #[{ key := .int .i64 0, val := .int .i64 1, born := 0 }, { key := .int .i64 1, val := .int .i64 1, born := 1 }] 2)) := (HBA.out.trans HB6.out).mapW hwr _ _
    have HC7 : Hid ((mapW w6 r #[{ key := .int .i64 0, val := .int .i64 1, born := 0 }, { key := .int .i64 1, val := .int .i64 1, born := 1 }] 2).cell? ⟨q5, 3, none⟩ = some (.complex .f64 0 4607182418800017408)) := mapW_cell HC6.out hq5r
    have HP7 : Hid ((mapW w6 r #[{ key := .int .i64 0, val := .int .i64 1, born := 0 }, { key := .int .i64 1, val := .int .i64 1, born := 1 }] 2).cell? ⟨p3, 0, none⟩ = some (.int .i64 1) ∧ (mapW w6 r #[{ key := .int .i64 0, val := .int .i64 1, born := 0 }, { key := .int .i64 1, val := .int .i64 1, born := 1 }] 2).cell? ⟨p3, 1, none⟩ = some (.int .i64 1) ∧ (mapW w6 r #[{ key := .int .i64 0, val := .int .i64 1, born := 0 }, { key := .int .i64 1, val := .int .i64 1, born := 1 }] 2).cell? ⟨p3, 2, none⟩ = some (.int .i64 2)) := ⟨mapW_cell (HB6.out.cellv HPA.out.1) hp3r, mapW_cell (HB6.out.cellv HPA.out.2.1) hp3r, mapW_cell (HB6.out.cellv HPA.out.2.2) hp3r⟩
    have HK7 : Hid (CVar (mapW w6 r #[{ key := .int .i64 0, val := .int .i64 1, born := 0 }, { key := .int .i64 1, val := .int .i64 1, born := 1 }] 2) p9 1 1 2 (some ⟨gc, 0, none⟩) 2 2) := ⟨mapW_cell (HB6.out.cellv HKA.out.1) hp9r, mapW_cell (HB6.out.cellv HKA.out.2.1) hp9r, mapW_cell (HB6.out.cellv HKA.out.2.2.1) hp9r, mapW_cell (HB6.out.cellv HKA.out.2.2.2) hp9r⟩
    have HV7 : Hid (CArr (mapW w6 r #[{ key := .int .i64 0, val := .int .i64 1, born := 0 }, { key := .int .i64 1, val := .int .i64 1, born := 1 }] 2) gc 2 [(4616189618054758400, 0), (0, 0)]) := (HVA.out.bel HB6.out).kept (mapW_other _ _ _ _ _ hgcr)
    have HR7 : Hid (R4 (mapW w6 r #[{ key := .int .i64 0, val := .int .i64 1, born := 0 }, { key := .int .i64 1, val := .int .i64 1, born := 1 }] 2) (p3 + 1)) := fun i hi => by
      have h := (HRA.out.bel HB6.out) i hi
      exact ⟨cellD_eq (mapW_cell h.1 hp4r), (World.frozen?_of_block (w := w6) (mapW_other w6 r _ _ (p3 + 1) hp4r)).trans h.2⟩
    go_wp2_with fail
    clear e1 e2 hr6 HBA HPA HKA HVA HMA HRA
    generalize mapW _ _ _ _ = w7 at HM7 HL7 HB7 HC7 HP7 HK7 HV7 HR7 ⊢
    have c0 : ∀ v : In w7, v.w.cell? ⟨p9, 3, none⟩ = some (.slice (some ⟨gc, 0, none⟩) 2 2) := In.cellv HK7.out.2.2.2
    have c1 : ∀ v : In w7, v.w.cell? ⟨q5, 3, none⟩ = some (.complex .f64 0 4607182418800017408) := In.cellv HC7.out
    have hgz : w7.cell? ⟨gc, 1, none⟩ = some (cVal (0, 0)) := HV7.out.cell (i := 1) (by decide) (0, 0)
    have HAB := Lib.hid abs2_b
    refine wp_in_tail 8 (by kernel_rfl) (by kernel_rfl) ?_
    simp only [List.take_succ_cons, List.take_zero, List.drop_succ_cons, List.drop_zero]
    repeat (go_big_quiet_step ((go_at_call 46; exact Calls.in_of (HAB.out _))))
    refine wpQuiet_nil ?_
    intro v8
    have hg8 := v8.h.cellv hgz
    have hf8 : v8.w.frozen? ⟨gc, 1, none⟩ = false := (HV7.out.bel v8.h).frozen 1
    have HB8 : Hid (Bel w (v8.w.setCell ⟨gc, 1, none⟩ (cVal (4607182418800017408, 0)))) := (HB7.out.trans v8.h).setCell hwg _
    have HP8 : Hid ((v8.w.setCell ⟨gc, 1, none⟩ (cVal (4607182418800017408, 0))).cell? ⟨p3, 0, none⟩ = some (.int .i64 1) ∧ (v8.w.setCell ⟨gc, 1, none⟩ (cVal (4607182418800017408, 0))).cell? ⟨p3, 1, none⟩ = some (.int .i64 1) ∧ (v8.w.setCell ⟨gc, 1, none⟩ (cVal (4607182418800017408, 0))).cell? ⟨p3, 2, none⟩ = some (.int .i64 2)) := ⟨cell_far (v8.h.cellv HP7.out.1) hp3g, cell_far (v8.h.cellv HP7.out.2.1) hp3g, cell_far (v8.h.cellv HP7.out.2.2) hp3g⟩
    have HK8 : Hid (CVar (v8.w.setCell ⟨gc, 1, none⟩ (cVal (4607182418800017408, 0))) p9 1 1 2 (some ⟨gc, 0, none⟩) 2 2) := (HK7.out.bel v8.h).far hne _
    have HV8 : Hid (CArr (v8.w.setCell ⟨gc, 1, none⟩ (cVal (4607182418800017408, 0))) gc 2 [(4616189618054758400, 0), (4607182418800017408, 0)]) := (HV7.out.bel v8.h).store 1 (4607182418800017408, 0)
    have HM8 : Hid ((v8.w.setCell ⟨gc, 1, none⟩ (cVal (4607182418800017408, 0))).heap[r]? = some (.map #[{ key := .int .i64 0, val := .int .i64 1, born := 0 }, { key := .int .i64 1, val := .int .i64 1, born := 1 }] 2)) := (Below.heap_setCell _ _ _ _ hrg).trans ((v8.h.block r (by rw [HL7.out]; exact hr6l)).trans HM7.out)
    have HR8 : Hid (R4 (v8.w.setCell ⟨gc, 1, none⟩ (cVal (4607182418800017408, 0))) (p3 + 1)) := fun i hi => by
      have h := (HR7.out.bel v8.h) i hi
      exact ⟨cellD_eq (cell_far h.1 hp4g), by simpa using h.2⟩
    clear c0 c1 HM7 HL7 HB7 HC7 HP7 HK7 HV7 HR7 hral hgz
    go_wp2_with fail
    generalize World.setCell _ _ _ = wb at HB8 HP8 HK8 HV8 HM8 HR8 ⊢
    clear hg8 hf8
    have hral : r < wb.heap.size := (Array.getElem?_eq_some_iff.1 HM8.out).1
    clear hr6l
    obtain ⟨HBA, HPA, HKA, HVA, HMA, HRA⟩ : Hid (Bel w wb) ∧ Hid (wb.cell? ⟨p3, 0, none⟩ = some (.int .i64 1) ∧ wb.cell? ⟨p3, 1, none⟩ = some (.int .i64 1) ∧ wb.cell? ⟨p3, 2, none⟩ = some (.int .i64 2)) ∧ Hid (CVar wb p9 1 1 2 (some ⟨gc, 0, none⟩) 2 2) ∧ Hid (CArr wb gc 2 [(4616189618054758400, 0), (4607182418800017408, 0)]) ∧ Hid (wb.heap[r]? = some (.map #[{ key := .int .i64 0, val := .int .i64 1, born := 0 }, { key := .int .i64 1, val := .int .i64 1, born := 1 }] 2)) ∧ Hid (R4 wb (p3 + 1)) := ⟨HB8, HP8, HK8, HV8, HM8, HR8⟩
    clear HB8 HP8 HK8 HV8 HM8 HR8
    obtain ⟨wa, rfl⟩ : ∃ wa : World, wa = wb := ⟨_, rfl⟩

    rw [rounds_succ]
    have HUB := Lib.hid (Unbox_any gc 0 2 1 1 2 2 [(4616189618054758400, 0), (4607182418800017408, 0)] [(4612811918334230528, 0), (4609434218613702656, 0)] wa sides_two rfl rfl box_two (fun i hi => by rw [Nat.zero_add]; exact HVA.out.cell (by show i < 2; exact hi) (0, 0)))
    obtain ⟨x0, x1, x2, x3⟩ := HKA.out
    have hwg4 : w.heap.size ≤ p3 + 1 := by have := HP3.out; omega
    have hpa : p3 + 1 < wa.heap.size := by have := (HRA.out 0 (by omega)).1; simpa using World.block_lt_of_cell? _ _ this
    go_wp2_with fail
    clear x0 x1 x2 x3
    refine HUB.out.mono ?_
    rintro e wz ⟨⟨g, c, rfl, hgz, hza⟩, hbz⟩
    have hpg : p3 + 1 ≠ g := by omega
    have hrb := HRA.out.bel hbz
    have HSET := Lib.hid (cvar_set hrb 1 1 2 (some ⟨g, 0, none⟩) 2 c)
    have HBF := Lib.hid (((((HBA.out.trans hbz).setCell (p := ⟨p3 + 1, 0, none⟩) hwg4 (.int .i64 1)).setCell (p := ⟨p3 + 1, 1, none⟩) hwg4 (.int .i64 1)).setCell (p := ⟨p3 + 1, 2, none⟩) hwg4 (.int .i64 2)).setCell (p := ⟨p3 + 1, 3, none⟩) hwg4 (.slice (some ⟨g, 0, none⟩) 2 c))
    have HIF := Lib.hid ((((hza.setOther (p := ⟨p3 + 1, 0, none⟩) hpg (.int .i64 1)).setOther (p := ⟨p3 + 1, 1, none⟩) hpg (.int .i64 1)).setOther (p := ⟨p3 + 1, 2, none⟩) hpg (.int .i64 2)).setOther (p := ⟨p3 + 1, 3, none⟩) hpg (.slice (some ⟨g, 0, none⟩) 2 c))
    obtain ⟨g0, f0⟩ := hrb 0 (by omega)
    obtain ⟨g1, f1⟩ := hrb 1 (by omega)
    obtain ⟨g2, f2⟩ := hrb 2 (by omega)
    obtain ⟨g3, f3⟩ := hrb 3 (by omega)
    clear hrb hza hbz
    go_wp2_with fail
    obtain ⟨r0, r1, r2, r3⟩ := HSET.out
    refine bodyPost_ret (v := .tuple #[countV 1 1 2 (some ⟨g, 0, none⟩) 2 c, .int .i64 0]) (by simp [results, Tryz.results26, go_sem, r0, r1, r2, r3]) rfl ⟨⟨g, c, rfl, HIF.out⟩, HBF.out⟩

end Go.Proofs.YtehiabiahipkhaaGreat
