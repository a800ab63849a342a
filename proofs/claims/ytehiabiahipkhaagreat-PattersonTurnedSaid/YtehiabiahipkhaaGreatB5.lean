/-
  The walks of facetlaw23.spare and facetlaw23.kept.
  What Exact and DocExact answer, in one form; rows that may be nil.
  The walk of facetlaw23.PattersonExacts (awake given).
-/
import Derived.Test.YtehiabiahipkhaaGreatB4
import Derived.Laws.AppendOwnNone
namespace Go.Proofs.YtehiabiahipkhaaGreat
open Go.RowKit
set_option linter.unusedVariables false
set_option linter.unusedSimpArgs false

/-- 'append(v, x...)', v of the call's own, x whatever list (nil too). -/
theorem wpList_append_list {α : Type} {P : Program} {w : World} {ops : Array Oper} {rest : List Oper} {o : Oper} {a : Act} {Q : Exit → Act → World → Prop} (hgd : o.guard = none) (s x : Operand) (t : TypeId)
    (ho : o.op = .call { callee := .builtin .append, args := #[s, x], argTypes := #[t, t] })
    (e : TypeId) (i : TypeInfo) (f : α → Value) (a0 : α) (bytes : Nat) (ht : P.underlying t = some (.slice e)) (hi : P.info? e = some i) (hz : i.zero = some (f a0))
    (hsize : i.size = 1) (hby : i.bytes = bytes) (hzs : (f a0).cells.size = 1)
    (v : Value) (n : Nat) (xs : List α) (hs : a.eval s = v) (w0 : World) (hown : w.ownsRow w0.heap.size e 1 v n (xs.map f)) (hb : Bel w0 w)
    (ao : Option Addr) (b off m c : Nat) (ys : List α) (hx : a.eval x = .slice ao m c) (hl : ys.length = m) (hnil : ao = none → c = 0) (hc : ∀ j, j < m → ao = some ⟨b, off, none⟩ ∧ w.cell? ⟨b, off + j, none⟩ = some (f (ys.getD j a0)))
    (h1 : ∀ y, (f y).oneCell' = true) (hn : n + m ≤ 1000000000) (hbytes : (n + m) * bytes ≤ 140737488355328)
    (h : ∀ v' w', w'.ownsRow w0.heap.size e 1 v' (n + m) ((xs ++ ys).map f) → Bel w0 w' → wpList P ops Q rest (a.put o.dst v') w') : wpList P ops Q (o :: rest) a w := by
  cases ao with
  | none =>
    have hc0 := hnil rfl
    have hm0 : m = 0 := by
      rcases Nat.eq_zero_or_pos m with h' | h'
      · exact h'
      · have := (hc 0 h').1; cases this
    subst hc0
    subst hm0
    obtain rfl : ys = [] := List.eq_nil_of_length_eq_zero hl
    refine wpList_append_own_none hgd s x t ho w0.heap.size e i 1 ht hi v n (xs.map f) hs hown hx ?_
    have := h v w (by simpa using hown) hb
    exact this
  | some p =>
    refine wpList_append_own w hgd s x t ho w0.heap.size e i (f a0) 1 bytes ht hi hz hsize hby hzs (by omega) v n (xs.map f) hs hown p m c (ys.map f) hx (by simp [hl]) ?_ ?_ (by unfold maxLen; omega) hbytes hb.size ?_
    · intro j u hj
      have hjm : j < m := by
        have := (List.getElem?_eq_some_iff.1 hj).1
        simpa [hl] using this
      obtain ⟨hp, hcell⟩ := hc j hjm
      obtain rfl : p = ⟨b, off, none⟩ := Option.some.inj hp
      have hadd : (⟨b, off, none⟩ : Addr).add j = ⟨b, off + j, none⟩ := by unfold Addr.add; split <;> simp_all
      rw [hadd, hcell, ← hj]
      simp [List.getD_eq_getElem?_getD, List.getElem?_eq_getElem (show j < ys.length by omega)]
    · intro u hu
      obtain ⟨y, _, rfl⟩ := List.mem_map.1 hu
      exact h1 y
    · intro v' w' h2 h3 _
      refine h v' w' (by rw [List.map_append]; exact h2) (hb.grown h3 fun k hk => (hown.lt k hk).1)

theorem info_i2 : (Tryz.prog.info? 3).map (fun i => (i.zero, i.size, i.bytes)) = some (some (iV 0), 1, 8) := info_i

set_option maxHeartbeats 4000000 in
theorem spare_any (b off cap m : Nat) (n0 n1 n2 : Int) (ao : Option Addr) (cs : List Int) (w : World) (hl : cs.length = m) (hm : m ≤ 1000000) (hnil : ao = none → cap = 0)
    (hx : ∀ i, i < m → ao = some ⟨b, off, none⟩ ∧ w.cell? ⟨b, off + i, none⟩ = some (iV (cs.getD i 0))) :
    Calls Tryz.prog 10 #[countV n0 n1 n2 ao m cap] w fun e w' =>
      (∃ g k, e = .returned (.tuple #[countV n0 n1 n2 (some ⟨g, 0, none⟩) m k, .slice (some ⟨g, 0, none⟩) (m + 2) k]) ∧ w.heap.size ≤ g ∧ IArr w' g k (cs ++ [77, 78])) ∧ Bel w w' := by
  obtain ⟨i0, hi, hz0, hz1, hz2⟩ := info_parts' info_i
  have HL := Lib.hid hl
  have HX := Lib.hid hx
  have HN := Lib.hid hnil
  have HI := Lib.hid (And.intro hi (And.intro hz0 (And.intro hz1 hz2)))
  clear hl hx hnil hi hz0 hz1 hz2
  have HB : Hid (Bel w ((w.alloc (.cells #[.int .i64 n0, .int .i64 n1, .int .i64 n2, .slice ao m cap] 26)).alloc (.cells #[.int .i64 0, .int .i64 0, .int .i64 0, .slice none 0 0] 26))) := ((Bel.refl w).alloc _).alloc _
  have z1 : (w.alloc (.cells #[.int .i64 n0, .int .i64 n1, .int .i64 n2, .slice ao m cap] 26)).heap.size = w.heap.size + 1 := size_alloc' _ _
  have z2 : ((w.alloc (.cells #[.int .i64 n0, .int .i64 n1, .int .i64 n2, .slice ao m cap] 26)).alloc (.cells #[.int .i64 0, .int .i64 0, .int .i64 0, .slice none 0 0] 26)).heap.size = w.heap.size + 1 + 1 := by rw [size_alloc', z1]
  have K4 : Hid (R4 ((w.alloc (.cells #[.int .i64 n0, .int .i64 n1, .int .i64 n2, .slice ao m cap] 26)).alloc (.cells #[.int .i64 0, .int .i64 0, .int .i64 0, .slice none 0 0] 26)) (w.heap.size + 1)) := by
    rw [← z1]; exact r4_new _ _ _ _ _ _
  have K1 : Hid (CVar ((w.alloc (.cells #[.int .i64 n0, .int .i64 n1, .int .i64 n2, .slice ao m cap] 26)).alloc (.cells #[.int .i64 0, .int .i64 0, .int .i64 0, .slice none 0 0] 26)) w.heap.size n0 n1 n2 ao m cap) := (cvar_new w _ _ _ _ _ _ _).bel ((Bel.refl _).alloc _)
  have KZ : Hid (((w.alloc (.cells #[.int .i64 n0, .int .i64 n1, .int .i64 n2, .slice ao m cap] 26)).alloc (.cells #[.int .i64 0, .int .i64 0, .int .i64 0, .slice none 0 0] 26)).heap.size = w.heap.size + 1 + 1) := z2
  clear z1 z2
  go_enter Tryz.func10, Tryz.ntmps10
  obtain ⟨hi, hz0, hz1, hz2⟩ := HI.out
  go_wp2_with (first
    | (at_builtin; generalize World.alloc (World.alloc w _) _ = Wb at HB K4 K1 KZ ⊢; refine wpList_append_list rfl _ _ 24 rfl 3 i0 iV 0 8 Tryz.underlying24 hi hz0 hz1 hz2 rfl (.slice (some ⟨w.heap.size + 1 + 1, 0, none⟩) 0 0) 0 [] rfl Wb ?own ((Bel.refl Wb).alloc _) ao b off m cap cs rfl HL.out HN.out (fun j hj => ⟨(HX.out j hj).1, (HB.out.alloc _).cellv (HX.out j hj).2⟩) (fun _ => rfl) (by omega) (by omega) ?_)
    | fail)
  case own =>
    rw [← KZ.out]
    exact World.ownsRow_lit (base := Wb.heap.size) (size := 1) (e := 3) _ #[] 0 (Nat.le_refl _) (by unfold maxLen; omega) rfl
  intro v1 w1 hown1 hb1
  have HO1 : Hid (w1.ownsRow Wb.heap.size 3 1 v1 m (cs.map iV)) := by
    have h : w1.ownsRow Wb.heap.size 3 1 v1 m (cs.map iV) := by simpa using hown1
    exact h
  have HB1 := Lib.hid hb1
  clear hown1 hb1
  have HC2 : Hid ((w1.alloc (.cells #[.int .i64 77, .int .i64 78] 3)).cell? ⟨w1.heap.size, 0, none⟩ = some (iV 77) ∧ (w1.alloc (.cells #[.int .i64 77, .int .i64 78] 3)).cell? ⟨w1.heap.size, 1, none⟩ = some (iV 78)) := ⟨cell_new _ _ _ 0, cell_new _ _ _ 1⟩
  have HB2 : Hid (Bel Wb (w1.alloc (.cells #[.int .i64 77, .int .i64 78] 3))) := HB1.out.alloc _
  have HO2 : Hid ((w1.alloc (.cells #[.int .i64 77, .int .i64 78] 3)).ownsRow Wb.heap.size 3 1 v1 m (cs.map iV)) := ownsRow_bel HO1.out ((Bel.refl w1).alloc _)
  clear HO1
  go_wp2_with (first
    | (at_builtin; generalize World.alloc _ _ = W2 at HC2 HB2 HO2 ⊢; refine wpList_append_list rfl _ _ 24 rfl 3 i0 iV 0 8 Tryz.underlying24 hi hz0 hz1 hz2 rfl _ m cs rfl Wb HO2.out HB2.out (some ⟨w1.heap.size, 0, none⟩) w1.heap.size 0 2 2 [77, 78] rfl rfl (fun h => by cases h) (fun j hj => ⟨rfl, by rcases (by omega : j = 0 ∨ j = 1) with rfl | rfl; exact HC2.out.1; exact HC2.out.2⟩) (fun _ => rfl) (by omega) (by omega) ?_)
    | fail)
  intro v2 w3 hown3 hb3
  have hown4 : w3.ownsRow Wb.heap.size 3 1 v2 (m + 2) ((cs ++ [77, 78]).map iV) := by simpa using hown3
  obtain ⟨g, k, rfl, hg, ha⟩ := arr_of_own hown4 (by simp [HL.out]) (by omega)
  have hlen : (cs ++ [77, 78]).length = m + 2 := by simp [HL.out]
  have hk : m ≤ k := by
    rcases ha.2 with ⟨h, _⟩ | ⟨g', k', cur, h, _, _, hle, _⟩
    · cases h
    · simp only [Value.slice.injEq] at h
      rw [hlen] at hle
      omega
  rw [hlen]
  have HB3 := Lib.hid hb3
  have HA := Lib.hid ha
  have hr := K4.out.bel hb3
  obtain ⟨x0, x1, x2, x3⟩ := K1.out.bel hb3
  have hwp : w.heap.size ≤ w.heap.size + 1 := by omega
  have hpg : w.heap.size + 1 ≠ g := by have := KZ.out; omega
  have hwg : w.heap.size ≤ g := by have := KZ.out; omega
  have hki : (m : Int) ≤ k := by omega
  have hb0 : Bel w3 w3.drew := (Bel.refl w3).drew
  clear hown3 hown4 hb3 ha hlen hi hz0 hz1 hz2
  go_wp2_with fail
  clear hb0 x0 x1 x2 x3
  obtain ⟨x0, x1, x2, x3⟩ := K1.out.bel HB3.out
  have HR := Lib.hid hr
  obtain ⟨g0, f0⟩ := hr 0 (by omega)
  obtain ⟨g1, f1⟩ := hr 1 (by omega)
  obtain ⟨g2, f2⟩ := hr 2 (by omega)
  obtain ⟨g3, f3⟩ := hr 3 (by omega)
  have hq : w.heap.size ≠ w.heap.size + 1 := by omega
  have HK := Lib.hid (K1.out.bel HB3.out)
  clear hr x0 x1 x2 x3
  have hb : Bel w3 w3.drew := (Bel.refl w3).drew
  go_region_held3 (fun w' => w'.cell? ⟨w.heap.size, 0, none⟩ = some (.int .i64 n0) ∧ w'.cell? ⟨w.heap.size, 1, none⟩ = some (.int .i64 n1) ∧ w'.cell? ⟨w.heap.size, 2, none⟩ = some (.int .i64 n2) ∧ w'.cell? ⟨w.heap.size, 3, none⟩ = some (.slice ao m cap))
    (first | exact HK.out.bel hb | exact ((((HK.out.bel hb).far hq _).far hq _).far hq _).far hq _) (fail)
  clear g0 f0 g1 f1 g2 f2 g3 f3
  have HSET := Lib.hid (cvar_set HR.out n0 n1 n2 (some ⟨g, 0, none⟩) m k)
  have HBF := Lib.hid (((((HB.out.trans HB3.out).setCell (p := ⟨w.heap.size + 1, 0, none⟩) hwp (.int .i64 n0)).setCell (p := ⟨w.heap.size + 1, 1, none⟩) hwp (.int .i64 n1)).setCell (p := ⟨w.heap.size + 1, 2, none⟩) hwp (.int .i64 n2)).setCell (p := ⟨w.heap.size + 1, 3, none⟩) hwp (.slice (some ⟨g, 0, none⟩) m k)).drew
  have HIF := Lib.hid ((((HA.out.setOther (p := ⟨w.heap.size + 1, 0, none⟩) hpg (.int .i64 n0)).setOther (p := ⟨w.heap.size + 1, 1, none⟩) hpg (.int .i64 n1)).setOther (p := ⟨w.heap.size + 1, 2, none⟩) hpg (.int .i64 n2)).setOther (p := ⟨w.heap.size + 1, 3, none⟩) hpg (.slice (some ⟨g, 0, none⟩) m k)).drew
  go_wp2_with fail
  obtain ⟨r0, r1, r2, r3⟩ := HSET.out
  refine bodyPost_ret (v := .tuple #[countV n0 n1 n2 (some ⟨g, 0, none⟩) m k, .slice (some ⟨g, 0, none⟩) (m + 2) k]) (by simp [results, Tryz.results10, go_sem, r0, r1, r2, r3]) rfl ⟨⟨g, k, rfl, hwg, HIF.out⟩, HBF.out⟩

set_option maxHeartbeats 4000000 in
theorem kept_any (g k b off cap m : Nat) (n0 n1 n2 : Int) (ao : Option Addr) (cs : List Int) (w : World) (hl : cs.length = m) (hm : m ≤ 1000000) (hk : m + 2 ≤ k)
    (hf : ∀ i, i < m + 2 → w.cell? ⟨g, i, none⟩ = some (iV ((cs ++ [77, 78]).getD i 0)))
    (hx : ∀ i, i < m → ao = some ⟨b, off, none⟩ ∧ w.cell? ⟨b, off + i, none⟩ = some (iV (cs.getD i 0))) :
    Calls Tryz.prog 14 #[.slice (some ⟨g, 0, none⟩) (m + 2 : Nat) k, countV n0 n1 n2 ao m cap] w fun e w' => e = .returned (.bool true) ∧ Bel w w' := by
  have HI := Lib.hid (fun (W : World) (h : Bel w W) => ints_any g 0 k b off cap m m (some ⟨g, 0, none⟩) ao cs cs W hl hl hm (fun i hi => ⟨rfl, by
    have := hf i (by omega)
    rw [Nat.zero_add]
    rw [List.getD_eq_getElem?_getD, List.getElem?_append_left (by omega), ← List.getD_eq_getElem?_getD] at this
    exact h.cellv this⟩) (fun i hi => ⟨(hx i hi).1, h.cellv (hx i hi).2⟩))
  have h77 := hf m (by omega)
  have h78 := hf (m + 1) (by omega)
  rw [List.getD_eq_getElem?_getD, List.getElem?_append_right (by omega), hl, Nat.sub_self] at h77
  rw [List.getD_eq_getElem?_getD, List.getElem?_append_right (by omega), hl, Nat.add_sub_cancel_left] at h78
  have h77' : w.cell? ⟨g, m, none⟩ = some (.int .i64 77) := h77
  have h78' : w.cell? ⟨g, m + 1, none⟩ = some (.int .i64 78) := h78
  rw [decide_eq_true rfl] at HI
  have HC := Lib.hid (And.intro h77' h78')
  have HB : Hid (Bel w (w.alloc (.cells #[.int .i64 n0, .int .i64 n1, .int .i64 n2, .slice ao m cap] 26))) := (Bel.refl w).alloc _
  have K1 : Hid (CVar (w.alloc (.cells #[.int .i64 n0, .int .i64 n1, .int .i64 n2, .slice ao m cap] 26)) w.heap.size n0 n1 n2 ao m cap) := cvar_new w _ _ _ _ _ _ _
  have f1 : IntKind.i64.wrap ((m : Int) + 1) = (m : Int) + 1 := IntWalk.i64_in _ (by omega)
  have HF := Lib.hid f1
  have hki : (m : Int) ≤ k := by omega
  clear hl hf hx h77 h78 h77' h78' f1
  go_enter Tryz.func14, Tryz.ntmps14
  go_wp2_with fail
  generalize World.alloc _ _ = W at HB K1 ⊢
  have HI2 := Lib.hid (fun (V : In W) => HI.out V.w (HB.out.trans V.h))
  have c3 : ∀ v : In W, v.w.cell? ⟨w.heap.size, 3, none⟩ = some (.slice ao m cap) := In.cellv K1.out.2.2.2
  have c4 : ∀ v : In W, v.w.cell? ⟨g, m, none⟩ = some (.int .i64 77) := In.cellv (HB.out.cellv HC.out.1)
  have c5 : ∀ v : In W, v.w.cell? ⟨g, m + 1, none⟩ = some (.int .i64 78) := In.cellv (HB.out.cellv HC.out.2)
  have f1 := HF.out
  refine wp_in (by kernel_rfl) (by kernel_rfl) ?_
  repeat (go_big_quiet_step ((go_at_call 27; exact Calls.in_of (HI2.out _))))
  refine wpQuiet_nil ?_
  intro vq
  have HBF := Lib.hid (HB.out.trans vq.h)
  go_wp2_with fail
  go_ret
  exact ⟨rfl, HBF.out⟩

end Go.Proofs.YtehiabiahipkhaaGreat

namespace Go.Proofs.YtehiabiahipkhaaGreat
open Go.RowKit
set_option linter.unusedVariables false
set_option linter.unusedSimpArgs false

/-- A list of the call's own, or nil where it is empty: its elements lie in block g. -/
def Row (base : Nat) (w : World) (ao : Option Addr) (g : Nat) (xs : List Int) : Prop :=
  base ≤ g ∧ ∀ i, i < xs.length → ao = some ⟨g, 0, none⟩ ∧ w.cell? ⟨g, i, none⟩ = some (iV (xs.getD i 0)) ∧ w.frozen? ⟨g, i, none⟩ = false
theorem Row.lt {base : Nat} {w : World} {ao : Option Addr} {g : Nat} {xs : List Int} (h : Row base w ao g xs) (h0 : 0 < xs.length) : g < w.heap.size :=
  World.block_lt_of_cell? _ _ (h.2 0 h0).2.1
theorem Row.bel {base : Nat} {w w' : World} {ao : Option Addr} {g : Nat} {xs : List Int} (h : Row base w ao g xs) (hb : Bel w w') : Row base w' ao g xs :=
  ⟨h.1, fun i hi => ⟨(h.2 i hi).1, hb.cellv (h.2 i hi).2.1, (hb.frozen (World.block_lt_of_cell? _ _ (h.2 i hi).2.1)).trans (h.2 i hi).2.2⟩⟩
theorem Row.far {base : Nat} {w : World} {ao : Option Addr} {g : Nat} {xs : List Int} (h : Row base w ao g xs) {q : Addr} (hq : 0 < xs.length → g ≠ q.block) (x : Value) : Row base (w.setCell q x) ao g xs :=
  ⟨h.1, fun i hi => ⟨(h.2 i hi).1, cell_far (h.2 i hi).2.1 (hq (by omega)), by simpa using (h.2 i hi).2.2⟩⟩
theorem Row.store {base : Nat} {w : World} {ao : Option Addr} {g : Nat} {xs : List Int} (h : Row base w ao g xs) (i : Nat) (v : Int) (hi : i < xs.length) : Row base (w.setCell ⟨g, i, none⟩ (iV v)) ao g (xs.set i v) := by
  refine ⟨h.1, fun j hj => ?_⟩
  rw [List.length_set] at hj
  obtain ⟨h1, h2, h3⟩ := h.2 j hj
  refine ⟨h1, ?_, by simpa using h3⟩
  rw [getD_set_at _ _ _ _ _ hi]
  by_cases hij : i = j
  · subst hij
    rw [if_pos rfl]
    exact World.cell?_setCell_same' w _ _ (by rw [h2]; rfl)
  · rw [if_neg hij, World.cell?_setCell_other w _ _ _ (fun e => hij (by have := congrArg Addr.off e; simpa using this))]
    exact h2
theorem Row.cells {base : Nat} {w : World} {ao : Option Addr} {g : Nat} {xs : List Int} (h : Row base w ao g xs) (i : Nat) (hi : i < xs.length) : ao = some ⟨g, 0, none⟩ ∧ w.cell? ⟨g, 0 + i, none⟩ = some (iV (xs.getD i 0)) := by
  rw [Nat.zero_add]; exact ⟨(h.2 i hi).1, (h.2 i hi).2.1⟩
theorem Row.of_arr {base : Nat} {w : World} {g c : Nat} {xs : List Int} (h : IArr w g c xs) (hb : base ≤ g) : Row base w (some ⟨g, 0, none⟩) g xs :=
  ⟨hb, fun i hi => ⟨rfl, h.cell hi 0, h.frozen i⟩⟩

/-- The sides and the list that are handed back. -/
def outN (z n : Int) : Int := if z = 0 then n else 0
def outL (n0 n1 n2 : Int) (m : Nat) (cs : List Int) (z : Int) : List Int := if z = 0 then autoL n0.toNat n1.toNat n2.toNat m cs else []
def ExactU (n0 n1 n2 : Int) (m : Nat) (cs : List Int) (w : World) (e : Ending) (w' : World) : Prop :=
  ∃ (z : Int) (ao : Option Addr) (c g l : Nat), CountE n0 n1 n2 m cs z ∧ e = .returned (.tuple #[countV (outN z n0) (outN z n1) (outN z n2) ao l c, .int .i64 z]) ∧
    Hid ((outL n0 n1 n2 m cs z).length = l) ∧ l ≤ m ∧ Row w.heap.size w' ao g (outL n0 n1 n2 m cs z)
theorem ExactR.u {n0 n1 n2 : Int} {m : Nat} {cs : List Int} {w w' : World} {e : Ending} (h : ExactR n0 n1 n2 m cs w e w') : ExactU n0 n1 n2 m cs w e w' := by
  obtain ⟨z, hz, h⟩ := h
  rcases h with ⟨h0, rfl⟩ | ⟨rfl, g, c, rfl, hg, ha⟩
  · refine ⟨z, none, 0, w.heap.size, 0, hz, ?_, ?_, Nat.zero_le _, Nat.le_refl _, ?_⟩
    · simp [outN, h0]
    · simp [outL, h0, Hid]
    · intro i hi; simp [outL, h0] at hi
  · refine ⟨0, some ⟨g, 0, none⟩, c, g, m, hz, ?_, ?_, Nat.le_refl _, ?_⟩
    · simp [outN]
    · unfold Hid outL; rw [if_pos rfl, autoL_length]
    · unfold outL; rw [if_pos rfl]; exact Row.of_arr ha hg

theorem exact_u (b off cap m : Nat) (n0 n1 n2 : Int) (ao : Option Addr) (cs : List Int) (w : World) (hl : cs.length = m)
    (hx : ∀ i, i < m → ao = some ⟨b, off, none⟩ ∧ w.cell? ⟨b, off + i, none⟩ = some (iV (cs.getD i 0))) :
    Calls Tryz.prog 11 #[countV n0 n1 n2 ao m cap] w fun e w' => ExactU n0 n1 n2 m cs w e w' ∧ Bel w w' :=
  (exact_any b off cap m n0 n1 n2 ao cs w hl hx).mono fun e w' h => ⟨h.1.u, h.2⟩
theorem docexact_u (b off cap m : Nat) (n0 n1 n2 : Int) (ao : Option Addr) (cs : List Int) (w : World) (hl : cs.length = m) (hm : m ≤ 1000000)
    (hx : ∀ i, i < m → ao = some ⟨b, off, none⟩ ∧ w.cell? ⟨b, off + i, none⟩ = some (iV (cs.getD i 0))) :
    Calls Tryz.prog 12 #[countV n0 n1 n2 ao m cap] w fun e w' => ExactU n0 n1 n2 m cs w e w' ∧ Bel w w' :=
  (docexact_any b off cap m n0 n1 n2 ao cs w hl hm hx).mono fun e w' h => ⟨h.1.u, h.2⟩

/-- facetlaw23.same, the sides alike and the lists too. -/
theorem same_yes (b1 o1 c1 b2 o2 c2 m1 m2 : Nat) (a1 a2 : Option Addr) (p0 p1 p2 : Int) (xs : List Int) (w : World) (hl1 : xs.length = m1) (hl2 : xs.length = m2) (hm : m1 ≤ 1000000)
    (hx : ∀ i, i < m1 → a1 = some ⟨b1, o1, none⟩ ∧ w.cell? ⟨b1, o1 + i, none⟩ = some (iV (xs.getD i 0))) (hy : ∀ i, i < m2 → a2 = some ⟨b2, o2, none⟩ ∧ w.cell? ⟨b2, o2 + i, none⟩ = some (iV (xs.getD i 0))) :
    Calls Tryz.prog 13 #[countV p0 p1 p2 a1 m1 c1, countV p0 p1 p2 a2 m2 c2] w fun e w' => e = .returned (.bool true) ∧ Bel w w' := by
  have := same_any b1 o1 c1 b2 o2 c2 m1 m2 a1 a2 p0 p1 p2 p0 p1 p2 xs xs w hl1 hl2 hm ⟨rfl, rfl, rfl⟩ hx hy
  rw [decide_eq_true rfl] at this
  exact this

end Go.Proofs.YtehiabiahipkhaaGreat

namespace Go.Proofs.YtehiabiahipkhaaGreat
open Go.RowKit
set_option linter.unusedVariables false
set_option linter.unusedSimpArgs false

set_option maxHeartbeats 8000000 in
set_option maxRecDepth 100000 in
theorem exacts_walk (HAW : ∀ W : World, Calls Tryz.prog 8 #[] W fun e w' => e = .returned (.bool true) ∧ Bel W w')
    (b off cap m : Nat) (n0 n1 n2 : Int) (ao : Option Addr) (cs : List Int) (w : World) (hl : cs.length = m) (hnil : ao = none → cap = 0)
    (hx : ∀ i, i < m → ao = some ⟨b, off, none⟩ ∧ w.cell? ⟨b, off + i, none⟩ = some (iV (cs.getD i 0))) :
    Calls Tryz.prog 3 #[countV n0 n1 n2 ao m cap] w fun e w' => e = .returned (.bool true) ∧ Bel w w' := by
  have HA := Lib.hid HAW
  have HL := Lib.hid hl
  have HN := Lib.hid hnil
  have HX := Lib.hid hx
  clear HAW hl hnil hx
  have HB : Hid (Bel w (w.alloc (.cells #[.int .i64 n0, .int .i64 n1, .int .i64 n2, .slice ao m cap] 26))) := (Bel.refl w).alloc _
  have K1 : Hid (CVar (w.alloc (.cells #[.int .i64 n0, .int .i64 n1, .int .i64 n2, .slice ao m cap] 26)) w.heap.size n0 n1 n2 ao m cap) := cvar_new w _ _ _ _ _ _ _
  by_cases hm : (m : Int) ≤ 1024
  · have HF := Lib.hid (fun W => few_any n0 n1 n2 ao m cap W)
    rw [decide_eq_true hm] at HF
    have hm2 : m ≤ 1024 := by omega
    clear hm
    go_enter Tryz.func3, Tryz.ntmps3
    go_wp2_with fail
    generalize World.alloc _ _ = W at HB K1 ⊢
    have hp1l : w.heap.size < W.heap.size := by simpa using World.block_lt_of_cell? _ _ K1.out.1
    generalize w.heap.size = p1 at K1 hp1l ⊢
    refine (HA.out _).mono ?_
    rintro e w1 ⟨rfl, hb1⟩
    have HB1 := Lib.hid hb1
    clear hb1
    obtain ⟨x0, x1, x2, x3⟩ := K1.out.bel HB1.out
    go_wp2_with fail
    clear x0 x1 x2 x3
    refine (HF.out _).mono ?_
    rintro e w2 ⟨rfl, hb2⟩
    have HB2 := Lib.hid (HB1.out.trans hb2)
    clear hb2 HB1
    obtain ⟨x0, x1, x2, x3⟩ := K1.out.bel HB2.out
    go_wp2_with fail
    clear x0 x1 x2 x3
    refine (spare_any b off cap m n0 n1 n2 ao cs _ HL.out (by omega) HN.out (fun i hi => ⟨(HX.out i hi).1, (HB.out.trans HB2.out).cellv (HX.out i hi).2⟩)).mono ?_
    rintro e w3 ⟨⟨g, k, rfl, hg, hfull⟩, hb3⟩
    have HB3 := Lib.hid (HB2.out.trans hb3)
    have HFU := Lib.hid hfull
    have hWg : W.heap.size ≤ g := Nat.le_trans HB2.out.size hg
    clear hb3 HB2 hg hfull
    obtain ⟨x0, x1, x2, x3⟩ := K1.out.bel HB3.out
    have hp1w : p1 < w3.heap.size := by have := HB3.out.size; omega
    go_wp2_with fail
    clear x0 x1 x2 x3 hp1w
    have HB4 : Hid (Bel W (w3.alloc (.cells #[.int .i64 n0, .int .i64 n1, .int .i64 n2, .slice (some ⟨g, 0, none⟩) m k] 26))) := HB3.out.alloc _
    have K3 : Hid (CVar (w3.alloc (.cells #[.int .i64 n0, .int .i64 n1, .int .i64 n2, .slice (some ⟨g, 0, none⟩) m k] 26)) w3.heap.size n0 n1 n2 (some ⟨g, 0, none⟩) m k) := cvar_new w3 _ _ _ _ _ _ _
    have HF4 : Hid (IArr (w3.alloc (.cells #[.int .i64 n0, .int .i64 n1, .int .i64 n2, .slice (some ⟨g, 0, none⟩) m k] 26)) g k (cs ++ [77, 78])) := HFU.out.alloc _
    have hgl : g < w3.heap.size := HFU.out.lt
    generalize World.alloc _ _ = W4 at HB4 K3 HF4 ⊢
    have hp3W : w3.heap.size < W4.heap.size := by simpa using World.block_lt_of_cell? _ _ K3.out.1
    clear HB3 HFU
    generalize w3.heap.size = p3 at K3 hgl hp3W ⊢
    have hlen2 : (cs ++ [77, 78]).length = m + 2 := by simp [HL.out]
    have hk2 : m + 2 ≤ k := by
      rcases HF4.out.2 with ⟨h, _⟩ | ⟨g', k', cur, h, _, _, hle, _⟩
      · cases h
      · simp only [Value.slice.injEq] at h
        rw [hlen2] at hle
        omega
    have HFC : Hid (∀ i, i < m + 2 → W4.cell? ⟨g, i, none⟩ = some (iV ((cs ++ [77, 78]).getD i 0))) := fun i hi => HF4.out.cell (by rw [hlen2]; exact hi) 0
    have HMC : Hid (∀ i, i < m → some (⟨g, 0, none⟩ : Addr) = some ⟨g, 0, none⟩ ∧ W4.cell? ⟨g, 0 + i, none⟩ = some (iV (cs.getD i 0))) := fun i hi => ⟨rfl, by
      have := HFC.out i (by omega)
      rw [Nat.zero_add]
      rw [List.getD_eq_getElem?_getD, List.getElem?_append_left (by rw [HL.out]; omega), ← List.getD_eq_getElem?_getD] at this
      exact this⟩
    clear hlen2 HF4
    refine (exact_u g 0 k m n0 n1 n2 (some ⟨g, 0, none⟩) cs W4 HL.out HMC.out).mono ?_
    rintro e w5 ⟨⟨z, aA, cA, gA, lA, hz, rfl, hlA, hlm, hrow⟩, hb5⟩
    have HZ := Lib.hid hz
    have HRA := Lib.hid hrow
    have HB5 := Lib.hid hb5
    clear hz hrow hb5
    obtain ⟨x0, x1, x2, x3⟩ := K1.out.bel (HB4.out.trans HB5.out)
    have hp1w : p1 < w5.heap.size := by have := HB4.out.size; have := HB5.out.size; omega
    go_wp2_with fail
    clear x0 x1 x2 x3 hp1w
    have HB6 : Hid (Bel W4 (w5.alloc (.cells #[.int .i64 (outN z n0), .int .i64 (outN z n1), .int .i64 (outN z n2), .slice aA lA cA] 26))) := HB5.out.alloc _
    have K5 : Hid (CVar (w5.alloc (.cells #[.int .i64 (outN z n0), .int .i64 (outN z n1), .int .i64 (outN z n2), .slice aA lA cA] 26)) w5.heap.size (outN z n0) (outN z n1) (outN z n2) aA lA cA) := cvar_new w5 _ _ _ _ _ _ _
    have HR6 : Hid (Row W4.heap.size (w5.alloc (.cells #[.int .i64 (outN z n0), .int .i64 (outN z n1), .int .i64 (outN z n2), .slice aA lA cA] 26)) aA gA (outL n0 n1 n2 m cs z)) := HRA.out.bel ((Bel.refl w5).alloc _)
    have HP5 : Hid (0 < lA → gA < w5.heap.size) := fun h => HRA.out.lt (by rw [hlA.out]; exact h)
    have h45 : W4.heap.size ≤ w5.heap.size := HB5.out.size
    generalize World.alloc _ _ = W6 at HB6 K5 HR6 ⊢
    have hp5W : w5.heap.size < W6.heap.size := by simpa using World.block_lt_of_cell? _ _ K5.out.1
    clear HB5 HRA
    generalize w5.heap.size = p5 at K5 HP5 h45 hp5W ⊢
    refine (docexact_u b off cap m n0 n1 n2 ao cs W6 HL.out (by omega) (fun i hi => ⟨(HX.out i hi).1, (HB.out.trans (HB4.out.trans HB6.out)).cellv (HX.out i hi).2⟩)).mono ?_
    rintro e w7 ⟨⟨z', aB, cB, gB, lB, hz', rfl, hlB, hlmB, hrow⟩, hb7⟩
    obtain rfl := HZ.out.det hz'
    have HRB := Lib.hid hrow
    have HB7 := Lib.hid hb7
    clear hz' hrow hb7
    obtain ⟨x0, x1, x2, x3⟩ := K5.out.bel HB7.out
    have hp5w : p5 < w7.heap.size := by have := HB7.out.size; omega
    go_wp2_with fail
    clear x0 x1 x2 x3 hp5w
    have HB8 : Hid (Bel W6 (w7.alloc (.cells #[.int .i64 (outN z n0), .int .i64 (outN z n1), .int .i64 (outN z n2), .slice aB lB cB] 26))) := HB7.out.alloc _
    have K7 : Hid (CVar (w7.alloc (.cells #[.int .i64 (outN z n0), .int .i64 (outN z n1), .int .i64 (outN z n2), .slice aB lB cB] 26)) w7.heap.size (outN z n0) (outN z n1) (outN z n2) aB lB cB) := cvar_new w7 _ _ _ _ _ _ _
    have HR8 : Hid (Row W6.heap.size (w7.alloc (.cells #[.int .i64 (outN z n0), .int .i64 (outN z n1), .int .i64 (outN z n2), .slice aB lB cB] 26)) aB gB (outL n0 n1 n2 m cs z)) := HRB.out.bel ((Bel.refl w7).alloc _)
    have h67 : W6.heap.size ≤ w7.heap.size := HB7.out.size
    generalize World.alloc _ _ = W8 at HB8 K7 HR8 ⊢
    clear HB7 HRB
    generalize w7.heap.size = p7 at K7 h67 ⊢
    refine (same_yes gA 0 cA gB 0 cB lA lB aA aB _ _ _ _ W8 hlA.out hlB.out (by omega) (fun i hi => (HR6.out.bel HB8.out).cells i (by rw [hlA.out]; exact hi)) (fun i hi => HR8.out.cells i (by rw [hlB.out]; exact hi))).mono ?_
    rintro e w9 ⟨rfl, hb9⟩
    have HB9 := Lib.hid hb9
    clear hb9
    obtain ⟨x0, x1, x2, x3⟩ := K1.out.bel (HB4.out.trans (HB6.out.trans (HB8.out.trans HB9.out)))
    have czz : (z != z) = false := by simp
    have czz2 : (z == z) = true := by simp
    go_wp2_with fail
    clear x0 x1 x2 x3 czz czz2
    refine (kept_any g k b off cap m n0 n1 n2 ao cs w9 HL.out (by omega) hk2 (fun i hi => ((HB6.out.trans HB8.out).trans HB9.out).cellv (HFC.out i hi)) (fun i hi => ⟨(HX.out i hi).1, (HB.out.trans (HB4.out.trans (HB6.out.trans (HB8.out.trans HB9.out)))).cellv (HX.out i hi).2⟩)).mono ?_
    rintro e w10 ⟨rfl, hb10⟩
    have HB10 := Lib.hid (HB8.out.trans (HB9.out.trans hb10))
    have HBW : Hid (Bel W w10) := HB4.out.trans (HB6.out.trans HB10.out)
    have HBB : Hid (Bel W8 w10) := HB9.out.trans hb10
    clear hb10 HB9
    obtain ⟨x0, x1, x2, x3⟩ := K5.out.bel HB10.out
    go_wp2_with fail
    clear x0 x1 x2 x3
    have hgA : 0 < lA → W4.heap.size ≤ gA ∧ gA < p5 := fun h => ⟨HR6.out.1, HP5.out h⟩
    have hgB : 0 < lB → W6.heap.size ≤ gB := fun _ => HR8.out.1
    have hWl := HB.out.size
    have hl4 := HB4.out.size
    go_loopw [50] (fun i wr => ∃ j : Nat, j ≤ lA ∧ i = .int .i64 j ∧ CVar wr p1 n0 n1 n2 ao m cap ∧ CVar wr p3 n0 n1 n2 (some ⟨g, 0, none⟩) m k ∧ CVar wr p5 (outN z n0) (outN z n1) (outN z n2) aA lA cA ∧ CVar wr p7 (outN z n0) (outN z n1) (outN z n2) aB lB cB ∧ (∀ i, i < m + 2 → wr.cell? ⟨g, i, none⟩ = some (iV ((cs ++ [77, 78]).getD i 0))) ∧ Row W6.heap.size wr aB gB (outL n0 n1 n2 m cs z) ∧ (∃ ys : List Int, ys.length = lA ∧ Row W4.heap.size wr aA gA ys) ∧ Bel w wr) (fun i _ => lA - (intOf i).toNat)
    case atStart => exact ⟨0, Nat.zero_le _, rfl, K1.out.bel HBW.out, K3.out.bel (HB6.out.trans HB10.out), K5.out.bel HB10.out, K7.out.bel HBB.out, fun i hi => (HB6.out.trans HB10.out).cellv (HFC.out i hi), HR8.out.bel HBB.out, ⟨_, hlA.out, HR6.out.bel HB10.out⟩, HB.out.trans HBW.out⟩
    case round =>
      obtain ⟨j, hj, rfl, r1, r3, r5, r7, rf, rb, ⟨ys, hys, ra⟩, rw⟩ := hrel
      clear HBW HBB HB10
      by_cases hlt : j < lA
      · obtain ⟨rfl, hcj, hfj⟩ := ra.2 j (by rw [hys]; exact hlt)
        obtain ⟨q1, q2⟩ := hgA (by omega)
        have hji : (j : Int) < lA := by omega
        have HR1 := Lib.hid r1
        have HR3 := Lib.hid r3
        have HR5 := Lib.hid r5
        have HR7 := Lib.hid r7
        have HRF := Lib.hid rf
        have HRB := Lib.hid rb
        have HRA := Lib.hid ra
        have HRW := Lib.hid rw
        have HYS := Lib.hid hys
        obtain ⟨x0, x1, x2, x3⟩ := HR5.out
        clear r1 r3 r5 r7 rf rb ra rw hys hgA
        go_wp2_with fail
        clear x0 x1 x2 x3
        go_roundw
        case rel =>
          have ww : w.heap.size ≤ gA := by omega
          exact ⟨j + 1, by omega, by go_num, HR1.out.far (by show p1 ≠ gA; omega) _, HR3.out.far (by show p3 ≠ gA; omega) _, HR5.out.far (by show p5 ≠ gA; omega) _, HR7.out.far (by show p7 ≠ gA; omega) _, fun i hi => cell_far (HRF.out i hi) (by show g ≠ gA; omega), HRB.out.far (fun h => by have := hgB (by rw [← hlB.out]; exact h); show gB ≠ gA; omega) _, ⟨_, by rw [List.length_set]; exact HYS.out, HRA.out.store j 5 (by rw [HYS.out]; exact hlt)⟩, HRW.out.setCell ww _⟩
        case measure => simp [intOf]; omega
      · have hjl : lA = j := by omega
        have HR1 := Lib.hid r1
        have HR3 := Lib.hid r3
        have HR7 := Lib.hid r7
        have HRF := Lib.hid rf
        have HRB := Lib.hid rb
        have HRW := Lib.hid rw
        obtain ⟨wo, rfl⟩ : ∃ wo : World, wo = wr := ⟨_, rfl⟩
        obtain ⟨x0, x1, x2, x3⟩ := HR3.out
        have hx2 : ∀ i, i < m → wo.cell? ⟨g, 0 + i, none⟩ = some (iV (cs.getD i 0)) := fun i hi => by
          have := HRF.out i (by omega)
          rw [Nat.zero_add]
          rw [List.getD_eq_getElem?_getD, List.getElem?_append_left (by rw [HL.out]; omega), ← List.getD_eq_getElem?_getD] at this
          exact this
        have HX2 := Lib.hid hx2
        clear hx2
        clear r1 r3 r5 r7 rf rb ra rw hys hgA hgB hj hlt
        subst hjl
        go_wp2_with fail
        clear x0 x1 x2 x3
        refine (exact_u g 0 k m n0 n1 n2 (some ⟨g, 0, none⟩) cs wo HL.out (fun i hi => ⟨rfl, HX2.out i hi⟩)).mono ?_
        rintro e w11 ⟨⟨z', aD, cD, gD, lD, hz', rfl, hlD, hlmD, hrow⟩, hb11⟩
        obtain rfl := HZ.out.det hz'
        have HRD := Lib.hid hrow
        have HB11 := Lib.hid hb11
        clear hz' hrow hb11
        obtain ⟨x0, x1, x2, x3⟩ := HR7.out.bel HB11.out
        have hp7l : p7 < w11.heap.size := by simpa using World.block_lt_of_cell? _ _ x0
        go_wp2_with fail
        clear x0 x1 x2 x3 hp7l
        have HB12 : Hid (Bel wo (w11.alloc (.cells #[.int .i64 (outN z n0), .int .i64 (outN z n1), .int .i64 (outN z n2), .slice aD lD cD] 26))) := HB11.out.alloc _
        have HR12 : Hid (Row wo.heap.size (w11.alloc (.cells #[.int .i64 (outN z n0), .int .i64 (outN z n1), .int .i64 (outN z n2), .slice aD lD cD] 26)) aD gD (outL n0 n1 n2 m cs z)) := HRD.out.bel ((Bel.refl w11).alloc _)
        generalize World.alloc _ _ = W12 at HB12 HR12 ⊢
        refine (same_yes gD 0 cD gB 0 cB lD lB aD aB _ _ _ _ W12 hlD.out hlB.out (by omega) (fun i hi => HR12.out.cells i (by rw [hlD.out]; exact hi)) (fun i hi => (HRB.out.bel HB12.out).cells i (by rw [hlB.out]; exact hi))).mono ?_
        rintro e w13 ⟨rfl, hb13⟩
        have HB13 := Lib.hid (HB12.out.trans hb13)
        clear hb13
        obtain ⟨x0, x1, x2, x3⟩ := HR1.out.bel HB13.out
        go_wp2_with fail
        clear x0 x1 x2 x3
        refine (kept_any g k b off cap m n0 n1 n2 ao cs w13 HL.out (by omega) hk2 (fun i hi => HB13.out.cellv (HRF.out i hi)) (fun i hi => ⟨(HX.out i hi).1, (HRW.out.trans HB13.out).cellv (HX.out i hi).2⟩)).mono ?_
        rintro e w14 ⟨rfl, hb14⟩
        have HB14 := Lib.hid (HRW.out.trans (HB13.out.trans hb14))
        clear hb14
        go_wp2_with fail
        go_ret
        exact ⟨rfl, HB14.out⟩
  · have HF := Lib.hid (fun W => few_any n0 n1 n2 ao m cap W)
    rw [decide_eq_false hm] at HF
    clear hm
    go_enter Tryz.func3, Tryz.ntmps3
    go_wp2_with fail
    generalize World.alloc _ _ = W at HB K1 ⊢
    generalize w.heap.size = p1 at K1 ⊢
    refine (HA.out _).mono ?_
    rintro e w1 ⟨rfl, hb1⟩
    have HB1 := Lib.hid hb1
    clear hb1
    obtain ⟨x0, x1, x2, x3⟩ := K1.out.bel HB1.out
    go_wp2_with fail
    clear x0 x1 x2 x3
    refine (HF.out _).mono ?_
    rintro e w2 ⟨rfl, hb2⟩
    have HB2 := Lib.hid (HB.out.trans (HB1.out.trans hb2))
    clear hb2
    go_wp2_with fail
    go_ret
    exact ⟨rfl, HB2.out⟩

end Go.Proofs.YtehiabiahipkhaaGreat
