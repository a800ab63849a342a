/-
  The walks of pairs.right and pairs.check at the two waves of the document's first example.
  Maps that a call makes, small and known whole.
  The walks of the sort of two waves that stand in order.
-/
import Derived.Test.YtehiabiahipkhaaGreatA9
import Derived.Test.YtehiabiahipkhaaGreatB3
import Derived.Test.YtehiabiahipkhaaGreatC4
import Derived.MapKept
namespace Go.Proofs.YtehiabiahipkhaaGreat
open Go.RowKit
set_option linter.unusedVariables false
set_option linter.unusedSimpArgs false

set_option maxHeartbeats 2000000 in
theorem right2_any (z : Int) (hz : z = 0 ∨ z = 1) (w : World) :
    Calls Tryz.prog 83 #[vecV 0 0 z] w fun e w' => e = .returned (.bool true) ∧ Bel w w' := by
  have HB : Hid (Bel w (w.alloc (.cells #[.int .i64 0, .int .i64 0, .int .i64 z] 23))) := (Bel.refl w).alloc _
  rcases hz with rfl | rfl
  all_goals (
    go_enter Tryz.func83, Tryz.ntmps83
    go_wp2
    refine wp_loop_rounds 4 ?_
    rw [rounds_succ]
    go_wp2
    rw [rounds_succ]
    go_wp2
    rw [rounds_succ]
    go_wp2
    rw [rounds_succ]
    go_wp2
    go_ret
    exact ⟨rfl, HB.out⟩)

/-- The two waves. -/
def TwoW (W : World) (b : Nat) : Prop :=
  (W.cell? ⟨b, 0, none⟩ = some (.int .i64 0) ∧ W.cell? ⟨b, 1, none⟩ = some (.int .i64 0) ∧ W.cell? ⟨b, 2, none⟩ = some (.int .i64 0) ∧ W.cell? ⟨b, 3, none⟩ = some (.complex .f64 4611686018427387904 0)) ∧
  W.cell? ⟨b, 4, none⟩ = some (.int .i64 0) ∧ W.cell? ⟨b, 5, none⟩ = some (.int .i64 0) ∧ W.cell? ⟨b, 6, none⟩ = some (.int .i64 1) ∧ W.cell? ⟨b, 7, none⟩ = some (.complex .f64 0 4607182418800017408)
theorem TwoW.bel {W W' : World} {b : Nat} (h : TwoW W b) (hb : Bel W W') : TwoW W' b :=
  ⟨⟨hb.cellv h.1.1, hb.cellv h.1.2.1, hb.cellv h.1.2.2.1, hb.cellv h.1.2.2.2⟩, hb.cellv h.2.1, hb.cellv h.2.2.1, hb.cellv h.2.2.2.1, hb.cellv h.2.2.2.2⟩

end Go.Proofs.YtehiabiahipkhaaGreat

namespace Go.Proofs.YtehiabiahipkhaaGreat
open Go.RowKit
set_option linter.unusedVariables false
set_option linter.unusedSimpArgs false

/-- The world in which block r is this map. -/
def mapW (w : World) (r : Nat) (es : Array MapEntry) (c : Nat) : World := { w with heap := w.heap.setIfInBounds r (.map es c) }
theorem mapW_heap {w : World} {r : Nat} (h : r < w.heap.size) (es : Array MapEntry) (c : Nat) : (mapW w r es c).heap[r]? = some (.map es c) := by simp [mapW, h]
theorem mapW_size (w : World) (r : Nat) (es : Array MapEntry) (c : Nat) : (mapW w r es c).heap.size = w.heap.size := by simp [mapW]
theorem mapW_other (w : World) (r : Nat) (es : Array MapEntry) (c : Nat) (k : Nat) (h : k ≠ r) : (mapW w r es c).heap[k]? = w.heap[k]? := by
  simp only [mapW]
  rw [Array.getElem?_setIfInBounds]
  simp [Ne.symm h]
theorem Bel.mapW {a w : World} (h : Bel a w) {r : Nat} (hr : a.heap.size ≤ r) (es : Array MapEntry) (c : Nat) : Bel a (mapW w r es c) :=
  ⟨h.os, h.tape, h.output, by rw [mapW_size]; exact h.size, fun k hk => (mapW_other w r es c k (by omega)).trans (h.block k hk)⟩
theorem mapW_cell {w : World} {r : Nat} {es : Array MapEntry} {c : Nat} {p : Addr} {v : Value} (h : w.cell? p = some v) (hp : p.block ≠ r) : (mapW w r es c).cell? p = some v :=
  (World.cell?_of_block (w := w) (mapW_other w r es c p.block hp)).trans h
theorem map_new (w : World) : (w.alloc (.map #[] 0)).heap[w.heap.size]? = some (.map #[] 0) := heap_alloc_new _ _

theorem run_makeMap' (P : Program) (t : TypeId) (w : World) : (Instr.makeMap t none).run P w = .ok (.map (some w.heap.size)) (w.alloc (.map #[] 0)) := rfl

theorem vlookup (W : World) (r : Nat) (es : Array MapEntry) (c : Nat) (k : Value) (hr : W.heap[r]? = some (.map es c))
    (hk : (Instr.checkKey es.isEmpty 10000 23 k).run Tryz.prog W = .ok () W) (hf : (Instr.findKey 23 k es.toList).run Tryz.prog W = .ok none W) :
    (Instr.lookup 127 (.map (some r)) k false).run Tryz.prog W = .ok (.int .i64 0) W := by
  have hz : (zeroValue 3).run Tryz.prog W = .ok (.int .i64 0) W := by kernel_rfl
  unfold Instr.lookup
  simp [run_underlying Tryz.underlying127, MapKept.run_getObj_map hr, hk, hf, hz, Result.andThen]

theorem vmapEntry (W : World) (r : Nat) (es : Array MapEntry) (c : Nat) (k : Value) (hr : W.heap[r]? = some (.map es c))
    (hk : (Instr.checkKey false 10000 23 k).run Tryz.prog W = .ok () W) (hf : (Instr.findKey 23 k es.toList).run Tryz.prog W = .ok none W) :
    (Instr.mapEntry 127 (.map (some r)) k).run Tryz.prog W = .ok (.tuple #[.int .i64 0, goInt c]) (mapW W r (es.push { key := k, val := .int .i64 0, born := c }) (c + 1)) := by
  have hz : (zeroValue 3).run Tryz.prog W = .ok (.int .i64 0) W := by kernel_rfl
  unfold Instr.mapEntry mapW
  simp [run_underlying Tryz.underlying127, MapKept.run_getObj_map hr, MapKept.run_setObj_map _ hr, hk, hf, hz, Result.andThen]

theorem ventryStore (W : World) (r : Nat) (es : Array MapEntry) (c : Nat) (s : Nat) (v : Value) (i : Nat) (hr : W.heap[r]? = some (.map es c)) (hi : es.findIdx? (fun e => (e.born : Int) == (s : Int)) = some i) :
    (Instr.entryStore 127 (.map (some r)) (.int .i64 s) v).run Tryz.prog W = .ok () (mapW W r (es.modify i fun e => { e with val := v }) c) := by
  unfold Instr.entryStore mapW
  simp [MapKept.run_getObj_map hr, MapKept.run_setObj_map _ hr, hi, Result.andThen, asInt, asIntOf]

theorem vlookup_found (W : World) (r : Nat) (es : Array MapEntry) (c i : Nat) (k v : Value) (hr : W.heap[r]? = some (.map es c))
    (hk : (Instr.checkKey es.isEmpty 10000 23 k).run Tryz.prog W = .ok () W) (hf : (Instr.findKey 23 k es.toList).run Tryz.prog W = .ok (some (i, v)) W) :
    (Instr.lookup 127 (.map (some r)) k false).run Tryz.prog W = .ok v W := by
  unfold Instr.lookup
  simp [run_underlying Tryz.underlying127, MapKept.run_getObj_map hr, hk, hf, Result.andThen]

theorem vlen (W : World) (r : Nat) (es : Array MapEntry) (c : Nat) (hr : W.heap[r]? = some (.map es c)) :
    (Builtin.len_ #[127] 3 #[.map (some r)]).run Tryz.prog W = .ok (.int .i64 es.size) W := by
  unfold Builtin.len_
  simp [MapKept.run_getObj_map hr, Result.andThen, Builtin.lenOf, goInt]
theorem vkey_ok (e : Bool) (x y z : Int) (W : World) : (Instr.checkKey e 10000 23 (.agg #[.int .i64 x, .int .i64 y, .int .i64 z])).run Tryz.prog W = .ok () W := by kernel_rfl
theorem vfind_none (k : Value) (W : World) : (Instr.findKey 23 k (#[] : Array MapEntry).toList).run Tryz.prog W = .ok none W := by kernel_rfl
theorem vfind_0 (v : Value) (n : Nat) (W : World) : (Instr.findKey 23 (.agg #[.int .i64 0, .int .i64 0, .int .i64 0]) (#[{ key := .agg #[.int .i64 0, .int .i64 0, .int .i64 0], val := v, born := n }] : Array MapEntry).toList).run Tryz.prog W = .ok (some (0, v)) W := by kernel_rfl
theorem vfind_1 (v : Value) (n : Nat) (W : World) : (Instr.findKey 23 (.agg #[.int .i64 0, .int .i64 0, .int .i64 1]) (#[{ key := .agg #[.int .i64 0, .int .i64 0, .int .i64 0], val := v, born := n }] : Array MapEntry).toList).run Tryz.prog W = .ok none W := by kernel_rfl
theorem vfind_11 (v v' : Value) (n n' : Nat) (W : World) : (Instr.findKey 23 (.agg #[.int .i64 0, .int .i64 0, .int .i64 1]) (#[{ key := .agg #[.int .i64 0, .int .i64 0, .int .i64 0], val := v, born := n }, { key := .agg #[.int .i64 0, .int .i64 0, .int .i64 1], val := v', born := n' }] : Array MapEntry).toList).run Tryz.prog W = .ok (some (1, v')) W := by kernel_rfl

theorem upon_run {P : Program} {o : Oper} {a : Act} {K : Act → World → Prop} {Q : Exit → Act → World → Prop} {r : Result Next} {v : Value} {w : World} (h : r = .ok (.value v) w) (hk : K (a.put o.dst v) w) : Oper.upon P o a K Q r := by
  subst h; exact hk

set_option maxHeartbeats 8000000 in
set_option maxRecDepth 100000 in
theorem pcheck_two (b : Nat) (w : World) (hx : TwoW w b) :
    Calls Tryz.prog 64 #[.slice (some ⟨b, 0, none⟩) 2 2] w fun e w' => e = .returned (.int .i64 0) ∧ Bel w w' := by
  have HX := Lib.hid hx
  clear hx
  go_enter Tryz.func64, Tryz.ntmps64
  go_wp2_with fail
  rw [run_makeMap']
  simp only [Result.andThen]
  have HB1 : Hid (Bel w (w.alloc (.map #[] 0))) := (Bel.refl w).alloc _
  have HM1 : Hid ((w.alloc (.map #[] 0)).heap[w.heap.size]? = some (.map #[] 0)) := map_new w
  generalize World.alloc _ _ = w1 at HB1 HM1 ⊢
  have hrw : w.heap.size < w1.heap.size := by have := HM1.out; exact (Array.getElem?_eq_some_iff.1 this).1
  have HR : Hid (w.heap.size ≤ w.heap.size) := Nat.le_refl _
  generalize hrr : w.heap.size = r at HM1 hrw HR ⊢
  have HRR := Lib.hid hrr
  clear hrr
  rw [Oper.upon_value]
  obtain ⟨⟨x0, x1, x2, x3⟩, x4, x5, x6, x7⟩ := HX.out.bel HB1.out
  go_wp2_with fail
  clear x0 x1 x2 x3 x4 x5 x6 x7
  have hbl : b < w1.heap.size := by have := (HX.out.bel HB1.out).1.1; simpa using World.block_lt_of_cell? _ _ this
  obtain ⟨⟨x0, x1, x2, x3⟩, x4, x5, x6, x7⟩ := HX.out.bel HB1.out
  refine wp_loop_rounds 3 ?_
  rw [rounds_succ]
  go_wp2_with fail
  have HB2 : Hid (Bel w1 (w1.alloc (.cells #[.int .i64 0, .int .i64 0, .int .i64 0, .complex .f64 4611686018427387904 0] 74))) := (Bel.refl w1).alloc _
  have HC2 : Hid ((w1.alloc (.cells #[.int .i64 0, .int .i64 0, .int .i64 0, .complex .f64 4611686018427387904 0] 74)).cell? ⟨w1.heap.size, 0, none⟩ = some (.int .i64 0) ∧ (w1.alloc (.cells #[.int .i64 0, .int .i64 0, .int .i64 0, .complex .f64 4611686018427387904 0] 74)).cell? ⟨w1.heap.size, 1, none⟩ = some (.int .i64 0) ∧ (w1.alloc (.cells #[.int .i64 0, .int .i64 0, .int .i64 0, .complex .f64 4611686018427387904 0] 74)).cell? ⟨w1.heap.size, 2, none⟩ = some (.int .i64 0)) := ⟨cell_new _ _ _ 0, cell_new _ _ _ 1, cell_new _ _ _ 2⟩
  generalize World.alloc _ _ = w2 at HB2 HC2 ⊢
  have hq2r : w1.heap.size ≠ r := by omega
  generalize w1.heap.size = q2 at HC2 hq2r ⊢
  clear x0 x1 x2 x3 x4 x5 x6 x7
  refine (right2_any 0 (Or.inl rfl) _).mono ?_
  rintro e w3 ⟨rfl, hb3⟩
  have HB3 := Lib.hid (HB2.out.trans hb3)
  have HC3 : Hid (w3.cell? ⟨q2, 0, none⟩ = some (.int .i64 0) ∧ w3.cell? ⟨q2, 1, none⟩ = some (.int .i64 0) ∧ w3.cell? ⟨q2, 2, none⟩ = some (.int .i64 0)) := ⟨hb3.cellv HC2.out.1, hb3.cellv HC2.out.2.1, hb3.cellv HC2.out.2.2⟩
  clear hb3 HB2
  go_wp2_with fail
  have hr : w3.drew.heap[r]? = some (.map #[] 0) := (HB3.out.drew.block r hrw).trans HM1.out
  have hrl : r < w3.drew.heap.size := (Array.getElem?_eq_some_iff.1 hr).1
  have e1 : (Instr.lookup 127 (.map (some r)) (.agg #[.int .i64 0, .int .i64 0, .int .i64 0]) false).run Tryz.prog w3.drew = .ok (.int .i64 0) w3.drew := vlookup _ _ _ _ _ hr (vkey_ok _ _ _ _ _) (vfind_none _ _)
  have e2 : (Instr.mapEntry 127 (.map (some r)) (.agg #[.int .i64 0, .int .i64 0, .int .i64 0])).run Tryz.prog w3.drew = .ok (.tuple #[.int .i64 0, .int .i64 0]) (mapW w3.drew r #[{ key := .agg #[.int .i64 0, .int .i64 0, .int .i64 0], val := .int .i64 0, born := 0 }] 1) := vmapEntry _ _ _ _ _ hr (vkey_ok _ _ _ _ _) (vfind_none _ _)
  have HB4 : Hid (Bel w (mapW w3.drew r #[{ key := .agg #[.int .i64 0, .int .i64 0, .int .i64 0], val := .int .i64 0, born := 0 }] 1)) := (HB1.out.trans HB3.out).drew.mapW (by have := HRR.out; omega) _ _
  have hqr : q2 ≠ r := hq2r
  obtain ⟨y0, y1, y2⟩ := HC3.out
  have z0 := mapW_cell (w := w3.drew) (r := r) (es := #[{ key := .agg #[.int .i64 0, .int .i64 0, .int .i64 0], val := .int .i64 0, born := 0 }]) (c := 1) (p := ⟨q2, 0, none⟩) (v := .int .i64 0) (by simpa using y0) hqr
  have z1 := mapW_cell (w := w3.drew) (r := r) (es := #[{ key := .agg #[.int .i64 0, .int .i64 0, .int .i64 0], val := .int .i64 0, born := 0 }]) (c := 1) (p := ⟨q2, 1, none⟩) (v := .int .i64 0) (by simpa using y1) hqr
  have z2 := mapW_cell (w := w3.drew) (r := r) (es := #[{ key := .agg #[.int .i64 0, .int .i64 0, .int .i64 0], val := .int .i64 0, born := 0 }]) (c := 1) (p := ⟨q2, 2, none⟩) (v := .int .i64 0) (by simpa using y2) hqr
  have hr4 := mapW_heap hrl #[{ key := .agg #[.int .i64 0, .int .i64 0, .int .i64 0], val := .int .i64 0, born := 0 }] 1
  have hl4 := (mapW_size w3.drew r #[{ key := .agg #[.int .i64 0, .int .i64 0, .int .i64 0], val := .int .i64 0, born := 0 }] 1)
  obtain ⟨w4, hw4⟩ : ∃ w4, mapW w3.drew r #[{ key := .agg #[.int .i64 0, .int .i64 0, .int .i64 0], val := .int .i64 0, born := 0 }] 1 = w4 := ⟨_, rfl⟩
  rw [hw4] at hr4 hl4 e2 HB4 z0 z1 z2
  have e3 : (Instr.lookup 127 (.map (some r)) (.agg #[.int .i64 0, .int .i64 0, .int .i64 0]) false).run Tryz.prog w4 = .ok (.int .i64 0) w4 := vlookup_found _ _ _ _ _ _ _ hr4 (vkey_ok _ _ _ _ _) (vfind_0 _ _ _)
  have e4 : (Instr.entryStore 127 (.map (some r)) (.int .i64 0) (.int .i64 1)).run Tryz.prog w4 = .ok () (mapW w4 r #[{ key := .agg #[.int .i64 0, .int .i64 0, .int .i64 0], val := .int .i64 1, born := 0 }] 1) := ventryStore w4 r _ _ 0 _ 0 hr4 (by kernel_rfl)
  have hrl4 : r < w4.heap.size := by rw [hl4]; exact hrl
  clear hr hr4 hl4 hrl
  have HB5 : Hid (Bel w (mapW w4 r #[{ key := .agg #[.int .i64 0, .int .i64 0, .int .i64 0], val := .int .i64 1, born := 0 }] 1)) := HB4.out.mapW (by have := HRR.out; omega) _ _
  have hr4' : r < w4.heap.size := hrl4
  have HR5 := Lib.hid (mapW_heap hr4' #[{ key := .agg #[.int .i64 0, .int .i64 0, .int .i64 0], val := .int .i64 1, born := 0 }] 1)
  go_region
  all_goals (
    clear e1 e2 e3 e4 y0 y1 y2 z0 z1 z2
    generalize mapW _ _ _ _ = w5 at HB5 HR5 ⊢
    have hbl5 : b < w5.heap.size := by have := (HX.out.bel HB5.out).1.1; simpa using World.block_lt_of_cell? _ _ this
    obtain ⟨⟨x0, x1, x2, x3⟩, x4, x5, x6, x7⟩ := HX.out.bel HB5.out
    go_wp2_with fail
    rw [rounds_succ]
    go_wp2_with fail
    have HB6 : Hid (Bel w5 (w5.alloc (.cells #[.int .i64 0, .int .i64 0, .int .i64 1, .complex .f64 0 4607182418800017408] 74))) := (Bel.refl w5).alloc _
    have HC6 : Hid ((w5.alloc (.cells #[.int .i64 0, .int .i64 0, .int .i64 1, .complex .f64 0 4607182418800017408] 74)).cell? ⟨w5.heap.size, 0, none⟩ = some (.int .i64 0) ∧ (w5.alloc (.cells #[.int .i64 0, .int .i64 0, .int .i64 1, .complex .f64 0 4607182418800017408] 74)).cell? ⟨w5.heap.size, 1, none⟩ = some (.int .i64 0) ∧ (w5.alloc (.cells #[.int .i64 0, .int .i64 0, .int .i64 1, .complex .f64 0 4607182418800017408] 74)).cell? ⟨w5.heap.size, 2, none⟩ = some (.int .i64 1)) := ⟨cell_new _ _ _ 0, cell_new _ _ _ 1, cell_new _ _ _ 2⟩
    generalize World.alloc _ _ = w6 at HB6 HC6 ⊢
    have hr5l : r < w5.heap.size := (Array.getElem?_eq_some_iff.1 HR5.out).1
    have hq6r : w5.heap.size ≠ r := by omega
    generalize w5.heap.size = q6 at HC6 hq6r ⊢
    clear x0 x1 x2 x3 x4 x5 x6 x7
    refine (right2_any 1 (Or.inr rfl) _).mono ?_
    rintro e w7 ⟨rfl, hb7⟩
    have HB7 := Lib.hid (HB6.out.trans hb7)
    have HC7 : Hid (w7.cell? ⟨q6, 0, none⟩ = some (.int .i64 0) ∧ w7.cell? ⟨q6, 1, none⟩ = some (.int .i64 0) ∧ w7.cell? ⟨q6, 2, none⟩ = some (.int .i64 1)) := ⟨hb7.cellv HC6.out.1, hb7.cellv HC6.out.2.1, hb7.cellv HC6.out.2.2⟩
    clear hb7 HB6
    go_wp2_with fail
    have hr : w7.drew.heap[r]? = some (.map #[{ key := .agg #[.int .i64 0, .int .i64 0, .int .i64 0], val := .int .i64 1, born := 0 }] 1) := (HB7.out.drew.block r hr5l).trans HR5.out
    have hrl : r < w7.drew.heap.size := (Array.getElem?_eq_some_iff.1 hr).1
    have e1 : (Instr.lookup 127 (.map (some r)) (.agg #[.int .i64 0, .int .i64 0, .int .i64 1]) false).run Tryz.prog w7.drew = .ok (.int .i64 0) w7.drew := vlookup _ _ _ _ _ hr (vkey_ok _ _ _ _ _) (vfind_1 _ _ _)
    have e2 : (Instr.mapEntry 127 (.map (some r)) (.agg #[.int .i64 0, .int .i64 0, .int .i64 1])).run Tryz.prog w7.drew = .ok (.tuple #[.int .i64 0, .int .i64 1]) (mapW w7.drew r #[{ key := .agg #[.int .i64 0, .int .i64 0, .int .i64 0], val := .int .i64 1, born := 0 }, { key := .agg #[.int .i64 0, .int .i64 0, .int .i64 1], val := .int .i64 0, born := 1 }] 2) := vmapEntry _ _ _ _ _ hr (vkey_ok _ _ _ _ _) (vfind_1 _ _ _)
    have HB8 : Hid (Bel w (mapW w7.drew r #[{ key := .agg #[.int .i64 0, .int .i64 0, .int .i64 0], val := .int .i64 1, born := 0 }, { key := .agg #[.int .i64 0, .int .i64 0, .int .i64 1], val := .int .i64 0, born := 1 }] 2)) := (HB5.out.trans HB7.out).drew.mapW (by have := HRR.out; omega) _ _
    obtain ⟨y0, y1, y2⟩ := HC7.out
    have z0 := mapW_cell (w := w7.drew) (r := r) (es := #[{ key := .agg #[.int .i64 0, .int .i64 0, .int .i64 0], val := .int .i64 1, born := 0 }, { key := .agg #[.int .i64 0, .int .i64 0, .int .i64 1], val := .int .i64 0, born := 1 }]) (c := 2) (p := ⟨q6, 0, none⟩) (v := .int .i64 0) (by simpa using y0) hq6r
    have z1 := mapW_cell (w := w7.drew) (r := r) (es := #[{ key := .agg #[.int .i64 0, .int .i64 0, .int .i64 0], val := .int .i64 1, born := 0 }, { key := .agg #[.int .i64 0, .int .i64 0, .int .i64 1], val := .int .i64 0, born := 1 }]) (c := 2) (p := ⟨q6, 1, none⟩) (v := .int .i64 0) (by simpa using y1) hq6r
    have z2 := mapW_cell (w := w7.drew) (r := r) (es := #[{ key := .agg #[.int .i64 0, .int .i64 0, .int .i64 0], val := .int .i64 1, born := 0 }, { key := .agg #[.int .i64 0, .int .i64 0, .int .i64 1], val := .int .i64 0, born := 1 }]) (c := 2) (p := ⟨q6, 2, none⟩) (v := .int .i64 1) (by simpa using y2) hq6r
    have hr4 := mapW_heap hrl #[{ key := .agg #[.int .i64 0, .int .i64 0, .int .i64 0], val := .int .i64 1, born := 0 }, { key := .agg #[.int .i64 0, .int .i64 0, .int .i64 1], val := .int .i64 0, born := 1 }] 2
    have hl4 : r < (mapW w7.drew r #[{ key := .agg #[.int .i64 0, .int .i64 0, .int .i64 0], val := .int .i64 1, born := 0 }, { key := .agg #[.int .i64 0, .int .i64 0, .int .i64 1], val := .int .i64 0, born := 1 }] 2).heap.size := by rw [mapW_size]; exact hrl
    obtain ⟨w8, hw8⟩ : ∃ w8, mapW w7.drew r #[{ key := .agg #[.int .i64 0, .int .i64 0, .int .i64 0], val := .int .i64 1, born := 0 }, { key := .agg #[.int .i64 0, .int .i64 0, .int .i64 1], val := .int .i64 0, born := 1 }] 2 = w8 := ⟨_, rfl⟩
    rw [hw8] at hr4 hl4 e2 HB8 z0 z1 z2
    have e3 : (Instr.lookup 127 (.map (some r)) (.agg #[.int .i64 0, .int .i64 0, .int .i64 1]) false).run Tryz.prog w8 = .ok (.int .i64 0) w8 := vlookup_found _ _ _ _ _ _ _ hr4 (vkey_ok _ _ _ _ _) (vfind_11 _ _ _ _ _)
    have e4 : (Instr.entryStore 127 (.map (some r)) (.int .i64 1) (.int .i64 1)).run Tryz.prog w8 = .ok () (mapW w8 r #[{ key := .agg #[.int .i64 0, .int .i64 0, .int .i64 0], val := .int .i64 1, born := 0 }, { key := .agg #[.int .i64 0, .int .i64 0, .int .i64 1], val := .int .i64 1, born := 1 }] 2) := ventryStore w8 r _ _ 1 _ 1 hr4 (by kernel_rfl)
    have HB9 : Hid (Bel w (mapW w8 r #[{ key := .agg #[.int .i64 0, .int .i64 0, .int .i64 0], val := .int .i64 1, born := 0 }, { key := .agg #[.int .i64 0, .int .i64 0, .int .i64 1], val := .int .i64 1, born := 1 }] 2)) := HB8.out.mapW (by have := HRR.out; omega) _ _
    have HR9 := Lib.hid (mapW_heap hl4 #[{ key := .agg #[.int .i64 0, .int .i64 0, .int .i64 0], val := .int .i64 1, born := 0 }, { key := .agg #[.int .i64 0, .int .i64 0, .int .i64 1], val := .int .i64 1, born := 1 }] 2)
    clear hr hr4 hl4 hrl
    go_region
    all_goals (
      clear e1 e2 e3 e4 y0 y1 y2 z0 z1 z2
      generalize mapW _ _ _ _ = w9 at HB9 HR9 ⊢
      go_wp2_with fail
      rw [rounds_succ]
      go_wp2_with fail
      rw [vlen _ _ _ _ HR9.out]
      simp only [Result.andThen]
      rw [Oper.upon_value]
      go_wp2_with fail
      go_ret
      exact ⟨rfl, HB9.out⟩))

end Go.Proofs.YtehiabiahipkhaaGreat

namespace Go.Proofs.YtehiabiahipkhaaGreat
open Go.RowKit
set_option linter.unusedVariables false
set_option linter.unusedSimpArgs false

set_option maxRecDepth 100000 in
theorem len64_two (w : World) : Calls Tryz.prog 114 #[.int .u64 2] w fun e w' => e = .returned (.int .i64 2) ∧ w = w' := by
  go_enter Tryz.func114, Tryz.ntmps114
  go_wp2
  go_ret
  exact ⟨by kernel_rfl, rfl⟩
theorem len_two (w : World) : Calls Tryz.prog 95 #[.int .u64 2] w fun e w' => e = .returned (.int .i64 2) ∧ w = w' := by
  go_enter Tryz.func95, Tryz.ntmps95
  go_wp2_with fail
  refine (len64_two _).mono ?_
  rintro e w' ⟨rfl, rfl⟩
  go_wp2_with fail
  go_ret
  exact ⟨rfl, rfl⟩

theorem cmp_eq (x : Int) (w : World) : Calls Tryz.prog 96 #[.int .i64 x, .int .i64 x] w fun e w' => e = .returned (.int .i64 0) ∧ w = w' := by
  have h1 : (x != x) = false := by simp
  go_enter Tryz.func96, Tryz.ntmps96
  go_wp2
  go_ret
  exact ⟨rfl, rfl⟩
theorem cmp_gt (w : World) : Calls Tryz.prog 96 #[.int .i64 1, .int .i64 0] w fun e w' => e = .returned (.int .i64 1) ∧ w = w' := by
  go_enter Tryz.func96, Tryz.ntmps96
  go_wp2
  go_ret
  exact ⟨rfl, rfl⟩

set_option maxHeartbeats 4000000 in
set_option maxRecDepth 100000 in
theorem hcompare_two (w : World) : Calls Tryz.prog 87 #[vecV 0 0 1, vecV 0 0 0] w fun e w' => e = .returned (.int .i64 1) ∧ Bel w w' := by
  have HB : Hid (Bel w ((w.alloc (.cells #[.int .i64 0, .int .i64 0, .int .i64 1] 23)).alloc (.cells #[.int .i64 0, .int .i64 0, .int .i64 0] 23))) := ((Bel.refl w).alloc _).alloc _
  have z1 : (w.alloc (.cells #[.int .i64 0, .int .i64 0, .int .i64 1] 23)).heap.size = w.heap.size + 1 := size_alloc' _ _
  have K1 : Hid (I3 ((w.alloc (.cells #[.int .i64 0, .int .i64 0, .int .i64 1] 23)).alloc (.cells #[.int .i64 0, .int .i64 0, .int .i64 0] 23)) w.heap.size 0 0 1) := (i3_new _ _ _ _ _).bel ((Bel.refl _).alloc _)
  have K2 : Hid (I3 ((w.alloc (.cells #[.int .i64 0, .int .i64 0, .int .i64 1] 23)).alloc (.cells #[.int .i64 0, .int .i64 0, .int .i64 0] 23)) (w.heap.size + 1) 0 0 0) := by rw [← z1]; exact i3_new _ _ _ _ _
  clear z1
  go_enter Tryz.func87, Tryz.ntmps87
  go_wp2_with fail
  generalize World.alloc _ _ = W at HB K1 K2 ⊢
  generalize w.heap.size = p1 at K1 K2 ⊢
  generalize p1 + 1 = p2 at K2 ⊢
  have c0 : ∀ v : In W, v.w.cell? ⟨p1, 0, none⟩ = some (.int .i64 0) := In.cellv K1.out.1.1
  have c1 : ∀ v : In W, v.w.cell? ⟨p1, 1, none⟩ = some (.int .i64 0) := In.cellv K1.out.1.2.1
  have c2 : ∀ v : In W, v.w.cell? ⟨p1, 2, none⟩ = some (.int .i64 1) := In.cellv K1.out.1.2.2
  have d0 : ∀ v : In W, v.w.cell? ⟨p2, 0, none⟩ = some (.int .i64 0) := In.cellv K2.out.1.1
  have d1 : ∀ v : In W, v.w.cell? ⟨p2, 1, none⟩ = some (.int .i64 0) := In.cellv K2.out.1.2.1
  have d2 : ∀ v : In W, v.w.cell? ⟨p2, 2, none⟩ = some (.int .i64 0) := In.cellv K2.out.1.2.2
  have HE : ∀ W : World, Calls Tryz.prog 96 #[.int .i64 0, .int .i64 0] W fun e w' => e = .returned (.int .i64 0) ∧ Bel W w' := fun W => (cmp_eq 0 W).mono fun e w' h => ⟨h.1, h.2 ▸ Bel.refl W⟩
  have HG : ∀ W : World, Calls Tryz.prog 96 #[.int .i64 1, .int .i64 0] W fun e w' => e = .returned (.int .i64 1) ∧ Bel W w' := fun W => (cmp_gt W).mono fun e w' h => ⟨h.1, h.2 ▸ Bel.refl W⟩
  have HE' := Lib.hid HE
  have HG' := Lib.hid HG
  clear HE HG
  refine wp_loop_rounds 4 ?_
  rw [rounds_succ]
  go_wp2_with fail
  refine wp_in (by kernel_rfl) (by kernel_rfl) ?_
  repeat (go_big_quiet_step ((go_at_call 96; exact Calls.in_of (HE'.out _))))
  refine wpQuiet_nil ?_
  intro v1
  have HB1 := Lib.hid (HB.out.trans v1.h)
  have C0 : ∀ v : In v1.w, v.w.cell? ⟨p1, 0, none⟩ = some (.int .i64 0) := In.cellv (c0 v1)
  have C1 : ∀ v : In v1.w, v.w.cell? ⟨p1, 1, none⟩ = some (.int .i64 0) := In.cellv (c1 v1)
  have C2 : ∀ v : In v1.w, v.w.cell? ⟨p1, 2, none⟩ = some (.int .i64 1) := In.cellv (c2 v1)
  have D0 : ∀ v : In v1.w, v.w.cell? ⟨p2, 0, none⟩ = some (.int .i64 0) := In.cellv (d0 v1)
  have D1 : ∀ v : In v1.w, v.w.cell? ⟨p2, 1, none⟩ = some (.int .i64 0) := In.cellv (d1 v1)
  have D2 : ∀ v : In v1.w, v.w.cell? ⟨p2, 2, none⟩ = some (.int .i64 0) := In.cellv (d2 v1)
  clear c0 c1 c2 d0 d1 d2
  generalize v1.w = W1 at HB1 C0 C1 C2 D0 D1 D2 ⊢
  go_wp2_with fail
  rw [rounds_succ]
  go_wp2_with fail
  refine wp_in (by kernel_rfl) (by kernel_rfl) ?_
  repeat (go_big_quiet_step ((go_at_call 96; exact Calls.in_of (HE'.out _))))
  refine wpQuiet_nil ?_
  intro v2
  have HB2 := Lib.hid (HB1.out.trans v2.h)
  have c2 : ∀ v : In v2.w, v.w.cell? ⟨p1, 2, none⟩ = some (.int .i64 1) := In.cellv (C2 v2)
  have d2 : ∀ v : In v2.w, v.w.cell? ⟨p2, 2, none⟩ = some (.int .i64 0) := In.cellv (D2 v2)
  clear C0 C1 C2 D0 D1 D2
  generalize v2.w = W2 at HB2 c2 d2 ⊢
  go_wp2_with fail
  rw [rounds_succ]
  go_wp2_with fail
  refine wp_in (by kernel_rfl) (by kernel_rfl) ?_
  repeat (go_big_quiet_step ((go_at_call 96; exact Calls.in_of (HG'.out _))))
  refine wpQuiet_nil ?_
  intro v3
  have HB3 := Lib.hid (HB2.out.trans v3.h)
  go_wp2_with fail
  go_ret
  exact ⟨rfl, HB3.out⟩

end Go.Proofs.YtehiabiahipkhaaGreat
