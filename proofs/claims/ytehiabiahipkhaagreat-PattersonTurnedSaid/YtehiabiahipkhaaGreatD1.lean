/-
  Lists of peaks in memory; what sort.SliceStable's two functions do to them: less, swap.
  The walks of patterson.Peaks' less and of sort.insertionSort_func with it.
  The walks of sort.stable_func and sort.SliceStable at few peaks.
-/
import Derived.Test.YtehiabiahipkhaaGreatRows
import Derived.Test.YtehiabiahipkhaaGreatB3
import Derived.WalkKit
import Derived.Lib.Hide
import Derived.Lib.ReflectliteSwap
import Derived.Laws.IdiomCopy
import Derived.Lib.EndianMore
import Derived.Deep.RegionHeld3
import Derived.IntWalk
import Derived.Lib.ReflectliteSlice
namespace Go.Proofs.YtehiabiahipkhaaGreat
open Go.RowKit
set_option linter.unusedVariables false
set_option linter.unusedSimpArgs false

/-- A peak: its place, its number. -/
structure Pk where
  a : Int
  b : Int
  c : Int
  v : Int
instance inhab_pk : Inhabited Pk := ⟨⟨0, 0, 0, 0⟩⟩
/-- Its cells. -/
def pkL (p : Pk) : List Value := [.int .i64 p.a, .int .i64 p.b, .int .i64 p.c, .int .i64 p.v]
theorem pkL_length (p : Pk) : (pkL p).length = 4 := rfl
theorem pkL_one (p : Pk) : ∀ v ∈ pkL p, v.oneCell' = true := fun v hv => by
  simp only [pkL, List.mem_cons, List.not_mem_nil, or_false] at hv
  rcases hv with rfl | rfl | rfl | rfl <;> rfl

/-- A row of peaks at the head of block g, in memory that may be written. -/
def PRow (w : World) (g : Nat) (ps : List Pk) : Prop :=
  ∀ i, i < ps.length → ∀ u x, (pkL (ps.getD i default))[u]? = some x → w.cell? ⟨g, i * 4 + u, none⟩ = some x ∧ w.frozen? ⟨g, i * 4 + u, none⟩ = false
theorem PRow.bel {w w' : World} {g : Nat} {ps : List Pk} (h : PRow w g ps) (hb : Bel w w') : PRow w' g ps := fun i hi u x hx =>
  ⟨hb.cellv (h i hi u x hx).1, (hb.frozen (World.block_lt_of_cell? _ _ (h i hi u x hx).1)).trans (h i hi u x hx).2⟩
theorem PRow.far {w : World} {g : Nat} {ps : List Pk} (h : PRow w g ps) {q : Addr} (hq : g ≠ q.block) (x : Value) : PRow (w.setCell q x) g ps := fun i hi u y hy => by
  obtain ⟨h1, h2⟩ := h i hi u y hy
  refine ⟨?_, by simpa using h2⟩
  rw [World.cell?_setCell_other w q _ x (fun e => hq (by rw [e]))]
  exact h1
theorem PRow.v {w : World} {g : Nat} {ps : List Pk} (h : PRow w g ps) (i : Nat) (hi : i < ps.length) : w.cell? ⟨g, i * 4 + 3, none⟩ = some (.int .i64 (ps.getD i default).v) := (h i hi 3 _ rfl).1
theorem PRow.lt {w : World} {g : Nat} {ps : List Pk} (h : PRow w g ps) (h0 : 0 < ps.length) : g < w.heap.size := World.block_lt_of_cell? _ _ (h 0 h0 0 _ rfl).1

/-- Two places changed about. -/
def swapL (ps : List Pk) (i j : Nat) : List Pk := (ps.set i (ps.getD j default)).set j (ps.getD i default)
theorem swapL_length (ps : List Pk) (i j : Nat) : (swapL ps i j).length = ps.length := by simp [swapL]
theorem swapL_get (ps : List Pk) (i j k : Nat) (hi : i < ps.length) (hj : j < ps.length) : (swapL ps i j).getD k default = if k = j then ps.getD i default else if k = i then ps.getD j default else ps.getD k default := by
  unfold swapL
  simp only [List.getD_eq_getElem?_getD, List.getElem?_set, List.length_set]
  by_cases h1 : k = j
  · subst h1; simp [hj]
  · by_cases h2 : k = i
    · subst h2; simp [h1, Ne.symm h1, hi]
    · simp [h1, h2, Ne.symm h1, Ne.symm h2]

/-- The world behind a swap. -/
def swapW (w : World) (g : Nat) (ps : List Pk) (i j : Nat) : World := (w.setCells g (i * 4) (pkL (ps.getD j default))).setCells g (j * 4) (pkL (ps.getD i default))
theorem swapW_row {w : World} {g : Nat} {ps : List Pk} (h : PRow w g ps) (i j : Nat) (hi : i < ps.length) (hj : j < ps.length) : PRow (swapW w g ps i j) g (swapL ps i j) := by
  intro k hk u x hx
  rw [swapL_length] at hk
  have hu : u < 4 := by have := (List.getElem?_eq_some_iff.1 hx).1; rwa [pkL_length] at this
  rw [swapL_get ps i j k hi hj] at hx
  have hk' : ∃ y, (pkL (ps.getD k default))[u]? = some y := ⟨(pkL (ps.getD k default))[u]'(by rw [pkL_length]; exact hu), List.getElem?_eq_getElem _⟩
  obtain ⟨y, hy⟩ := hk'
  obtain ⟨c0, f0⟩ := h k hk u y hy
  have some_i : ∀ u', u' < (pkL (ps.getD j default)).length → (w.cell? ⟨g, i * 4 + u', none⟩).isSome = true := fun u' hu' => by
    rw [pkL_length] at hu'
    rw [(h i hi u' _ (List.getElem?_eq_getElem (by rw [pkL_length]; exact hu'))).1]; rfl
  have some_j : ∀ u', u' < (pkL (ps.getD i default)).length → ((w.setCells g (i * 4) (pkL (ps.getD j default))).cell? ⟨g, j * 4 + u', none⟩).isSome = true := fun u' hu' => by
    rw [pkL_length] at hu'
    refine Lib.isSome_setCells _ _ _ _ _ ?_
    rw [(h j hj u' _ (List.getElem?_eq_getElem (by rw [pkL_length]; exact hu'))).1]; rfl
  refine ⟨?_, by unfold swapW; rw [World.frozen?_setCells, World.frozen?_setCells]; exact f0⟩
  unfold swapW
  by_cases h1 : k = j
  · subst h1
    rw [if_pos rfl] at hx
    have := World.cell?_setCells_in g (pkL (ps.getD i default)) (k * 4) _ some_j u (by rw [pkL_length]; exact hu)
    rw [this]
    rw [← hx]; simp [List.getElem?_eq_getElem, pkL_length, hu]
  · rw [World.cell?_setCells_out _ _ _ _ _ (fun _ _ => by rw [pkL_length]; show k * 4 + u < j * 4 ∨ j * 4 + 4 ≤ k * 4 + u; omega)]
    rw [if_neg h1] at hx
    by_cases h2 : k = i
    · subst h2
      rw [if_pos rfl] at hx
      have := World.cell?_setCells_in g (pkL (ps.getD j default)) (k * 4) _ some_i u (by rw [pkL_length]; exact hu)
      rw [this]
      rw [← hx]; simp [List.getElem?_eq_getElem, pkL_length, hu]
    · rw [if_neg h2] at hx
      rw [World.cell?_setCells_out _ _ _ _ _ (fun _ _ => by rw [pkL_length]; show k * 4 + u < i * 4 ∨ i * 4 + 4 ≤ k * 4 + u; omega)]
      exact (h k hk u x hx).1
theorem setCells_other (g : Nat) (vs : List Value) (o : Nat) (w : World) (p : Addr) (hp : p.block ≠ g) : (w.setCells g o vs).cell? p = w.cell? p := World.cell?_setCells_out _ _ _ _ _ (fun e => absurd e hp)
theorem swapW_other {w : World} {g : Nat} {ps : List Pk} {i j : Nat} {p : Addr} (hp : p.block ≠ g) : (swapW w g ps i j).cell? p = w.cell? p := by
  unfold swapW; rw [setCells_other _ _ _ _ _ hp, setCells_other _ _ _ _ _ hp]
theorem swapW_below {w : World} {g : Nat} {ps : List Pk} {i j : Nat} : Below g w (swapW w g ps i j) := by
  unfold swapW
  exact (Lib.below_setCells_w (Nat.le_refl _) _ _ _).trans (Lib.below_setCells_w (Nat.le_refl _) _ _ _)

theorem info_pk : (Tryz.prog.info? 45).map (fun i => i.size) = some 4 := by kernel_rfl
theorem info_pk2 : (Tryz.prog.info? 46).map (fun i => i.size) = some 4 := by kernel_rfl

/-- The function that changes two elements about. -/
theorem run_swapPk {w : World} {g n c : Nat} {ps : List Pk} (h : PRow w g ps) (hn : ps.length = n) (i j : Nat) (hi : i < n) (hj : j < n) :
    (callFunc 79 #[.int .i64 i, .int .i64 j, .slice (some ⟨g, 0, none⟩) n c, typeHandle Tryz.prog 45]).run Tryz.prog w = .ok (.value (.tuple #[])) (swapW w g ps i j) := by
  obtain ⟨ie, hie, hs⟩ : ∃ ie, Tryz.prog.info? 45 = some ie ∧ ie.size = 4 := by
    have := info_pk
    cases hh : Tryz.prog.info? 45 with
    | none => rw [hh] at this; cases this
    | some ie => rw [hh] at this; exact ⟨ie, rfl, by simpa using this⟩
  have hagg : ∀ w, (isAgg 45).run Tryz.prog w = .ok true w := fun w => by kernel_rfl
  have X := Lib.run_swap_cells (P := Tryz.prog) false 45 ie hie hagg g 0 n c i j hi hj (pkL (ps.getD i default)) (pkL (ps.getD j default)) (by rw [hs]; rfl) (by rw [hs]; rfl) (pkL_one _) (pkL_one _) w
    (fun u x hx => by rw [hs, Nat.zero_add]; exact (h i (by omega) u x hx).1) (fun u x hx => by rw [hs, Nat.zero_add]; exact (h j (by omega) u x hx).1)
    (fun u hu => by rw [hs] at hu; rw [hs, Nat.zero_add]; exact (h i (by omega) u _ (List.getElem?_eq_getElem (by rw [pkL_length]; exact hu))).2)
    (fun u hu => by rw [hs] at hu; rw [hs, Nat.zero_add]; exact (h j (by omega) u _ (List.getElem?_eq_getElem (by rw [pkL_length]; exact hu))).2)
  rw [hs, Nat.zero_add, Nat.zero_add] at X
  rw [run_callFunc_extern Tryz.func79 (by kernel_rfl) (by kernel_rfl) (by kernel_rfl) (e := Extern.ReflectliteSwapper.swap false) (by kernel_rfl), X]
  rfl

end Go.Proofs.YtehiabiahipkhaaGreat

namespace Go.Proofs.YtehiabiahipkhaaGreat
open Go.RowKit
set_option linter.unusedVariables false
set_option linter.unusedSimpArgs false

set_option maxHeartbeats 2000000 in
theorem less_any (g p cap n i j : Nat) (ps : List Pk) (w : World) (hp : w.cell? ⟨p, 0, none⟩ = some (.slice (some ⟨g, 0, none⟩) n cap)) (h : PRow w g ps) (hn : ps.length = n) (hi : i < n) (hj : j < n) :
    Calls Tryz.prog 37 #[.int .i64 i, .int .i64 j, .pointer (some ⟨p, 0, none⟩)] w fun e w' => e = .returned (.bool (decide ((ps.getD j default).v < (ps.getD i default).v))) ∧ Bel w w' := by
  have hvi := h.v i (by omega)
  have hvj := h.v j (by omega)
  generalize (ps.getD i default).v = x at hvi ⊢
  generalize (ps.getD j default).v = y at hvj ⊢
  have c0 : ∀ v : In w, v.w.cell? ⟨p, 0, none⟩ = some (.slice (some ⟨g, 0, none⟩) n cap) := In.cellv hp
  have c1 : ∀ v : In w, v.w.cell? ⟨g, i * 4 + 3, none⟩ = some (.int .i64 x) := In.cellv hvi
  have c2 : ∀ v : In w, v.w.cell? ⟨g, j * 4 + 3, none⟩ = some (.int .i64 y) := In.cellv hvj
  have hii : (i : Int) < n := by omega
  have hji : (j : Int) < n := by omega
  clear h hn hi hj hp hvi hvj
  go_enter Tryz.func37, Tryz.ntmps37
  go_wp2_with fail
  refine wp_in (by kernel_rfl) (by kernel_rfl) ?_
  repeat (go_big_quiet_step (fail))
  refine wpQuiet_nil ?_
  intro vq
  have HB := Lib.hid vq.h
  go_wp2_with fail
  go_ret
  exact ⟨rfl, HB.out⟩

/-- What an element does that sinks to the left. -/
def sinkL (a : Nat) : Nat → List Pk → List Pk
  | 0, ps => ps
  | j + 1, ps => if a < j + 1 ∧ (ps.getD j default).v < (ps.getD (j + 1) default).v then sinkL a j (swapL ps (j + 1) j) else ps
/-- The first k rounds of an insertion sort from a on. -/
def insL (a : Nat) (ps : List Pk) : Nat → List Pk
  | 0 => ps
  | k + 1 => sinkL a (a + 1 + k) (insL a ps k)
theorem sinkL_length (a j : Nat) (ps : List Pk) : (sinkL a j ps).length = ps.length := by
  induction j generalizing ps with
  | zero => rfl
  | succ j ih =>
    unfold sinkL
    split
    · rw [ih, swapL_length]
    · rfl
theorem insL_length (a : Nat) (ps : List Pk) (k : Nat) : (insL a ps k).length = ps.length := by
  induction k with
  | zero => rfl
  | succ k ih => show (sinkL a _ _).length = _; rw [sinkL_length, ih]

/-- The functions' values. -/
abbrev lessV (p : Nat) : Value := .func (.func 37) #[] #[.pointer (some ⟨p, 0, none⟩)]
abbrev swapV (H : Value) (g n c : Nat) : Value := .func (.func 79) #[] #[.slice (some ⟨g, 0, none⟩) n c, H]

/-- What the sort's functions find: the variable that holds the slice, the row, the boxed functions. -/
structure SrtW (H : Value) (w0 w : World) (p g n c bx : Nat) (ps : List Pk) : Prop where
  pc : w.cell? ⟨p, 0, none⟩ = some (.slice (some ⟨g, 0, none⟩) n c)
  row : PRow w g ps
  len : ps.length = n
  b0 : w.cell? ⟨bx, 0, none⟩ = some (lessV p)
  b1 : w.cell? ⟨bx, 1, none⟩ = some (swapV H g n c)
  bel : Below g w0 w
theorem SrtW.more {H : Value} {w0 w w' : World} {p g n c bx : Nat} {ps : List Pk} (h : SrtW H w0 w p g n c bx ps) (hg : g ≤ w.heap.size) (hb : Bel w w') : SrtW H w0 w' p g n c bx ps :=
  ⟨hb.cellv h.pc, h.row.bel hb, h.len, hb.cellv h.b0, hb.cellv h.b1, h.bel.trans (Below.mono hb hg)⟩
theorem SrtW.swap {H : Value} {w0 w : World} {p g n c bx : Nat} {ps : List Pk} (h : SrtW H w0 w p g n c bx ps) (hp : p ≠ g) (hbx : bx ≠ g) (i j : Nat) (hi : i < n) (hj : j < n) : SrtW H w0 (swapW w g ps i j) p g n c bx (swapL ps i j) :=
  ⟨(swapW_other (p := ⟨p, 0, none⟩) hp).trans h.pc, swapW_row h.row i j (by rw [h.len]; exact hi) (by rw [h.len]; exact hj), by rw [swapL_length]; exact h.len,
    (swapW_other (p := ⟨bx, 0, none⟩) hbx).trans h.b0, (swapW_other (p := ⟨bx, 1, none⟩) hbx).trans h.b1, h.bel.trans swapW_below⟩

set_option maxHeartbeats 4000000 in
set_option maxRecDepth 100000 in
theorem inssort_any (H : Value) (hH : H = typeHandle Tryz.prog 45) (p g n c a b : Nat) (ps : List Pk) (w : World) (hp : w.cell? ⟨p, 0, none⟩ = some (.slice (some ⟨g, 0, none⟩) n c)) (h : PRow w g ps) (hn : ps.length = n) (hpg : p ≠ g) (hg : g < w.heap.size) (hab : a ≤ b) (hb : b ≤ n) (hn2 : n ≤ 1000000) :
    Calls Tryz.prog 80 #[.agg #[lessV p, swapV H g n c], .int .i64 a, .int .i64 b] w fun e w' => e = .returned (.tuple #[]) ∧ PRow w' g (insL a ps (b - a - 1)) ∧ Below g w w' := by
  have HS : Hid (SrtW H w (w.alloc (.cells #[lessV p, swapV H g n c] 111)) p g n c w.heap.size ps) := by
    have hb : Bel w (w.alloc (.cells #[lessV p, swapV H g n c] 111)) := (Bel.refl w).alloc _
    exact ⟨hb.cellv hp, h.bel hb, hn, cell_new _ _ _ 0, cell_new _ _ _ 1, Below.mono hb (by omega)⟩
  have hbx : w.heap.size ≠ g := by omega
  have hgs : g ≤ (w.alloc (.cells #[lessV p, swapV H g n c] 111)).heap.size := by rw [size_alloc']; omega
  have HG := Lib.hid (And.intro hbx hgs)
  have HH := Lib.hid hH
  clear hp h hn hbx hgs hH
  go_enter Tryz.func80, Tryz.ntmps80
  go_wp2_with fail
  obtain ⟨hbx, hgs⟩ := HG.out
  clear HG
  generalize World.alloc _ _ = W at HS hgs ⊢
  generalize w.heap.size = bx at HS hbx ⊢
  have hgl := hg
  go_loopw [6] (fun i wr => ∃ k : Nat, k ≤ b - a - 1 ∧ i = .int .i64 ((a + 1 + k : Nat) : Int) ∧ g ≤ wr.heap.size ∧ SrtW H w wr p g n c bx (insL a ps k)) (fun i _ => b + 1 - (intOf i).toNat)
  case atStart => exact ⟨0, Nat.zero_le _, by go_num, hgs, HS.out⟩
  case round =>
    obtain ⟨k, hk, rfl, hgw, hs⟩ := hrel
    clear HS hgs
    by_cases hlt : a + 1 + k < b
    · have HS := Lib.hid hs
      have h1 : ((a + 1 + k : Nat) : Int) < b := by omega
      obtain ⟨i, hi⟩ : ∃ i, a + 1 + k = i := ⟨_, rfl⟩
      have HI : Hid (insL a ps (k + 1) = sinkL a i (insL a ps k)) := by rw [← hi]; rfl
      have HIK := Lib.hid hi
      rw [hi] at h1 hlt ⊢
      have hai : a ≤ i := by omega
      obtain ⟨wo, rfl⟩ : ∃ wo : World, wo = wr := ⟨_, rfl⟩
      clear hs hi
      go_wp2_with fail
      go_loopw [7] (fun jv wq => ∃ (j : Nat) (qs : List Pk), a ≤ j ∧ j ≤ i ∧ jv = .int .i64 j ∧ sinkL a j qs = insL a ps (k + 1) ∧ g ≤ wq.heap.size ∧ SrtW H w wq p g n c bx qs) (fun jv _ => (intOf jv).toNat)
      case atStart => exact ⟨i, _, hai, Nat.le_refl _, rfl, HI.out.symm, hgw, HS.out⟩
      case round =>
        obtain ⟨j, qs, hja, hji, rfl, hsk, hgq, hsq⟩ := hrel
        clear HS HI
        by_cases hj : a < j
        · obtain ⟨j', rfl⟩ : ∃ j', j = j' + 1 := ⟨j - 1, by omega⟩
          have hb0 := hsq.b0
          have hb1 := hsq.b1
          have HL := Lib.hid (less_any g p c n (j' + 1) j' qs wr hsq.pc hsq.row hsq.len (by omega) (by omega))
          have HSW := Lib.hid (fun (W : World) (hW : PRow W g qs) => run_swapPk (c := c) hW hsq.len (j' + 1) j' (by omega) (by omega))
          rw [← HH.out] at HSW
          have f1 : IntKind.i64.wrap (((j' + 1 : Nat) : Int) - 1) = (j' : Int) := by
            rw [show ((j' + 1 : Nat) : Int) - 1 = (j' : Int) by omega]; exact IntWalk.i64_in _ (by omega)
          have hj1 : (a : Int) < ((j' + 1 : Nat) : Int) := by omega
          have HJ := Lib.hid hja
          by_cases hv : (qs.getD j' default).v < (qs.getD (j' + 1) default).v
          · rw [decide_eq_true hv] at HL
            have HK : Hid (sinkL a j' (swapL qs (j' + 1) j') = insL a ps (k + 1)) := by
              have e : sinkL a (j' + 1) qs = sinkL a j' (swapL qs (j' + 1) j') := by rw [sinkL, if_pos ⟨hj, hv⟩]
              exact e.symm.trans hsk
            have HSQ := Lib.hid hsq
            clear hsq hsk hv
            go_wp2_with fail
            refine HL.out.mono ?_
            rintro e w3 ⟨rfl, hb3⟩
            have HS3 := Lib.hid (HSQ.out.more hgq hb3)
            have hg3 : g ≤ w3.heap.size := Nat.le_trans hgq hb3.size
            have hsw := HSW.out w3 HS3.out.row
            rw [show ((j' + 1 : Nat) : Int) = (j' : Int) + 1 by omega] at hsw
            have hb13 := HS3.out.b1
            clear hb0 hb1 hb3
            go_wp2_with fail
            go_roundw
            case rel => exact ⟨j', _, by omega, by omega, rfl, HK.out, by have := (swapW_below (w := w3) (g := g) (ps := qs) (i := j' + 1) (j := j')).size; omega, HS3.out.swap hpg hbx (j' + 1) j' (by omega) (by omega)⟩
            case measure => simp [intOf]
          · rw [decide_eq_false hv] at HL
            have HK : Hid (qs = insL a ps (k + 1)) := by
              have e : sinkL a (j' + 1) qs = qs := by rw [sinkL, if_neg (fun h => hv h.2)]
              exact e.symm.trans hsk
            have HSQ := Lib.hid hsq
            clear hsq hsk hv
            go_wp2_with fail
            refine HL.out.mono ?_
            rintro e w3 ⟨rfl, hb3⟩
            have HS3 := Lib.hid (HSQ.out.more hgq hb3)
            have hg3 : g ≤ w3.heap.size := Nat.le_trans hgq hb3.size
            clear hb0 hb1 hb3
            have f2 : IntKind.i64.wrap ((i : Int) + 1) = (i : Int) + 1 := IntWalk.i64_in _ (by omega)
            go_wp2_with fail
            go_roundw
            case rel => exact ⟨k + 1, by have := HIK.out; omega, by have := HIK.out; rw [show a + 1 + (k + 1) = i + 1 by omega]; go_num, hg3, by rw [← HK.out]; exact HS3.out⟩
            case measure => simp [intOf]; omega
        · have hje : j = a := by omega
          have HK : Hid (qs = insL a ps (k + 1)) := by
            have e : sinkL a j qs = qs := by
              cases j with
              | zero => rfl
              | succ j' => rw [sinkL, if_neg (fun h => by omega)]
            exact e.symm.trans hsk
          have HSQ := Lib.hid hsq
          have hj1 : ¬ ((a : Int) < (j : Int)) := by omega
          have f2 : IntKind.i64.wrap ((i : Int) + 1) = (i : Int) + 1 := IntWalk.i64_in _ (by omega)
          obtain ⟨wq, rfl⟩ : ∃ wq : World, wq = wr := ⟨_, rfl⟩
          clear hsq hsk hje
          go_wp2_with fail
          go_roundw
          case rel => exact ⟨k + 1, by have := HIK.out; omega, by have := HIK.out; rw [show a + 1 + (k + 1) = i + 1 by omega]; go_num, hgq, by rw [← HK.out]; exact HSQ.out⟩
          case measure => simp [intOf]; omega
    · have hkb : k = b - a - 1 := by omega
      have HSQ := Lib.hid hs
      have h1 : ¬ (((a + 1 + k : Nat) : Int) < b) := by omega
      have HK := Lib.hid hkb
      clear hs hkb hlt
      go_wp2_with fail
      go_end0
      exact ⟨rfl, by rw [← HK.out]; exact HSQ.out.row, HSQ.out.bel⟩

end Go.Proofs.YtehiabiahipkhaaGreat

namespace Go.Proofs.YtehiabiahipkhaaGreat
open Go.RowKit
set_option linter.unusedVariables false
set_option linter.unusedSimpArgs false

set_option maxHeartbeats 4000000 in
set_option maxRecDepth 100000 in
theorem stable_few (H : Value) (hH : H = typeHandle Tryz.prog 45) (p g n c : Nat) (ps : List Pk) (w : World) (hp : w.cell? ⟨p, 0, none⟩ = some (.slice (some ⟨g, 0, none⟩) n c)) (h : PRow w g ps) (hn : ps.length = n) (hpg : p ≠ g) (hg : g < w.heap.size) (hn2 : n < 20) :
    Calls Tryz.prog 57 #[.agg #[lessV p, swapV H g n c], .int .i64 n] w fun e w' => e = .returned (.tuple #[]) ∧ PRow w' g (insL 0 ps (n - 1)) ∧ Below g w w' := by
  have hb : Bel w (w.alloc (.cells #[lessV p, swapV H g n c] 111)) := (Bel.refl w).alloc _
  have HI := Lib.hid (inssort_any H hH p g n c 0 n ps (w.alloc (.cells #[lessV p, swapV H g n c] 111)) (hb.cellv hp) (h.bel hb) hn hpg (by rw [size_alloc']; omega) (Nat.zero_le _) (Nat.le_refl _) (by omega))
  have HB : Hid (Below g w (w.alloc (.cells #[lessV p, swapV H g n c] 111))) := Below.mono hb (by omega)
  have h20 : (n : Int) < 20 := by omega
  clear hp h hn hH hb
  go_enter Tryz.func57, Tryz.ntmps57
  go_wp2_with fail
  refine wp_loop_rounds 1 ?_
  rw [rounds_succ]
  go_wp2_with fail
  refine HI.out.mono ?_
  rintro e w' ⟨rfl, hr, hb'⟩
  have HR := Lib.hid hr
  have HB2 := Lib.hid (HB.out.trans hb')
  clear hr hb'
  go_wp2_with fail
  refine wp_loop_rounds 1 ?_
  rw [rounds_succ]
  go_wp2_with fail
  go_end0
  exact ⟨rfl, HR.out, HB2.out⟩

theorem extern_of {P : Program} {f : FuncId} {e : Array Value → Sem Value} {args : Array Value} {w w' : World} {v : Value} (hr : (e args).run P w = .ok v w') (h : ∀ args w, (callFunc f args).run P w = ((e args).run P w).andThen fun v w' => .ok (.value v) w') : (callFunc f args).run P w = .ok (.value v) w' := by
  rw [h, hr]
  rfl

theorem info_of {t : TypeId} {f : TypeInfo → Bool} (h : (Tryz.prog.info? t).map f = some true) : ∃ i, Tryz.prog.info? t = some i ∧ f i = true := by
  cases hh : Tryz.prog.info? t with
  | none => rw [hh] at h; cases h
  | some i => rw [hh] at h; exact ⟨i, rfl, by simpa using h⟩

set_option maxHeartbeats 4000000 in
set_option maxRecDepth 100000 in
theorem sstable_few (p g n c : Nat) (ps : List Pk) (w : World) (hp : w.cell? ⟨p, 0, none⟩ = some (.slice (some ⟨g, 0, none⟩) n c)) (h : PRow w g ps) (hn : ps.length = n) (hpg : p ≠ g) (hg : g < w.heap.size) (h2 : 2 ≤ n) (hn2 : n < 20) :
    Calls Tryz.prog 36 #[.iface 38 (.slice (some ⟨g, 0, none⟩) n c), lessV p] w fun e w' => e = .returned (.tuple #[]) ∧ PRow w' g (insL 0 ps (n - 1)) ∧ Below g w w' := by
  obtain ⟨i, hi, hd⟩ : ∃ i, Tryz.prog.info? 38 = some i ∧ i.desc = .slice 45 := by
    have k : Tryz.prog.underlying 38 = some (.slice 45) := Tryz.underlying38
    have k2 : (Tryz.prog.info? 38).map (·.desc) = some (.slice 45) := by kernel_rfl
    cases hh : Tryz.prog.info? 38 with
    | none => rw [hh] at k2; cases k2
    | some i => rw [hh] at k2; exact ⟨i, rfl, by simpa using k2⟩
  obtain ⟨ie, hie, hk⟩ : ∃ ie, Tryz.prog.info? 45 = some ie ∧ ie.hasPointers = false ∧ ie.bytes = 32 := by
    have k2 : (Tryz.prog.info? 45).map (fun i => (i.hasPointers, i.bytes)) = some (false, 32) := by kernel_rfl
    cases hh : Tryz.prog.info? 45 with
    | none => rw [hh] at k2; cases k2
    | some i => rw [hh] at k2; simp at k2; exact ⟨i, rfl, k2⟩
  have hke : ∀ w, (Extern.Rtype.kind 45).run Tryz.prog w = .ok 25 w := fun _ => by kernel_rfl
  have hpk : Tryz.prog.packed 38 = false := by kernel_rfl
  have hk9 : Lib.swapperK n ie 25 = 9 := by
    have n0 : (n == 0) = false := by simp; omega
    have n1 : (n == 1) = false := by simp; omega
    simp [Lib.swapperK, hk.1, hk.2, n0, n1]
  have hv := Lib.run_valueOf_slice (P := Tryz.prog) 38 45 i hi hd (some ⟨g, 0, none⟩) n c w
  have hs := fun W => Lib.run_swapper_slice (P := Tryz.prog) 38 45 i ie hi hd hie 25 hke (some ⟨g, 0, none⟩) n c 79 (by rw [hk9]; kernel_rfl) W
  have hl := fun a W ha => Lib.run_valueLen_slice (P := Tryz.prog) 38 45 i hi hd hpk a (some ⟨g, 0, none⟩) n c W ha
  rw [if_neg (by rw [hk9]; omega)] at hs
  obtain ⟨H, hH⟩ : ∃ H, typeHandle Tryz.prog 45 = H := ⟨_, rfl⟩
  rw [hH] at hs
  obtain ⟨GS, hTH⟩ : ∃ GS, Tryz.prog.globals.size = GS := ⟨_, rfl⟩
  simp only [typeHandle] at hv hl
  rw [hTH] at hv hl
  have hs2 : ∀ W, (callFunc 56 #[.iface 38 (.slice (some ⟨g, 0, none⟩) n c)]).run Tryz.prog W = .ok (.value (swapV H g n c)) W := fun W => by
    exact extern_of (hs W) (run_callFunc_extern Tryz.func56 (by kernel_rfl) (by kernel_rfl) (by kernel_rfl) (by kernel_rfl))
  have hl2 : ∀ a W, W.cell? a = some (.slice (some ⟨g, 0, none⟩) n c) → (callFunc 58 #[.agg #[.pointer (some ⟨GS, 38, none⟩), .pointer (some a), .int .u64 151]]).run Tryz.prog W = .ok (.value (.int .i64 n)) W := fun a W ha => by
    exact extern_of (hl a W ha) (run_callFunc_extern Tryz.func58 (by kernel_rfl) (by kernel_rfl) (by kernel_rfl) (by kernel_rfl))
  have HH := Lib.hid hH.symm
  have HA : ∀ (W : World), True := fun _ => trivial
  clear hk9 hpk hke hk hie hd hi hTH hH HA
  go_enter Tryz.func36, Tryz.ntmps36
  go_wp2_with fail
  rw [run_callFunc_extern Tryz.func55 (by kernel_rfl) (by kernel_rfl) (by kernel_rfl) (e := fun args => Extern.ReflectliteValue.unpack (args.getD 0 (.tuple #[]))) (by kernel_rfl),
    show Sem.run Tryz.prog ((fun args : Array Value => Extern.ReflectliteValue.unpack (args.getD 0 (.tuple #[]))) #[.iface 38 (.slice (some ⟨g, 0, none⟩) n c)]) w = _ from hv]
  simp only [Result.andThen]
  rw [Oper.upon_value]
  have HV := Lib.hid hl2
  have HS := Lib.hid hs2
  clear hl hs hv hl2 hs2
  have HB1 : Hid (Bel w (w.alloc (.cells #[.slice (some ⟨g, 0, none⟩) n c] 38))) := (Bel.refl w).alloc _
  have HC1 : Hid ((w.alloc (.cells #[.slice (some ⟨g, 0, none⟩) n c] 38)).cell? ⟨w.heap.size, 0, none⟩ = some (.slice (some ⟨g, 0, none⟩) n c)) := cell_new _ _ _ 0
  generalize World.alloc _ _ = w1 at HB1 HC1 ⊢
  go_wp2_with fail
  rw [HS.out, Oper.upon_value]
  have HB2 : Hid (Bel w1 (w1.alloc (.cells #[.pointer (some ⟨GS, 38, none⟩), .pointer (some ⟨w.heap.size, 0, none⟩), .int .u64 151] 105))) := (Bel.refl w1).alloc _
  have HC2 : Hid ((w1.alloc (.cells #[.pointer (some ⟨GS, 38, none⟩), .pointer (some ⟨w.heap.size, 0, none⟩), .int .u64 151] 105)).cell? ⟨w1.heap.size, 0, none⟩ = some (.pointer (some ⟨GS, 38, none⟩)) ∧ (w1.alloc (.cells #[.pointer (some ⟨GS, 38, none⟩), .pointer (some ⟨w.heap.size, 0, none⟩), .int .u64 151] 105)).cell? ⟨w1.heap.size, 1, none⟩ = some (.pointer (some ⟨w.heap.size, 0, none⟩)) ∧ (w1.alloc (.cells #[.pointer (some ⟨GS, 38, none⟩), .pointer (some ⟨w.heap.size, 0, none⟩), .int .u64 151] 105)).cell? ⟨w1.heap.size, 2, none⟩ = some (.int .u64 151)) := ⟨cell_new _ _ _ 0, cell_new _ _ _ 1, cell_new _ _ _ 2⟩
  generalize World.alloc _ _ = w2 at HB2 HC2 ⊢
  obtain ⟨y0, y1, y2⟩ := HC2.out
  go_wp2_with fail
  rw [HV.out _ _ (HB2.out.cellv HC1.out), Oper.upon_value]
  clear y0 y1 y2
  have HST := Lib.hid (stable_few H HH.out p g n c ps w2 ((HB1.out.trans HB2.out).cellv hp) (h.bel (HB1.out.trans HB2.out)) hn hpg (by have := (HB1.out.trans HB2.out).size; omega) hn2)
  clear hp h hn
  go_wp2_with fail
  refine HST.out.mono ?_
  rintro e w' ⟨rfl, hr, hb'⟩
  have HR := Lib.hid hr
  have HB3 : Hid (Below g w w') := (Below.mono (HB1.out.trans HB2.out) (by omega)).trans hb'
  clear hr hb'
  go_wp2_with fail
  go_end0
  exact ⟨rfl, HR.out, HB3.out⟩

end Go.Proofs.YtehiabiahipkhaaGreat
