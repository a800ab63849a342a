/-
  Appending a peak; the walk of patterson.Peaks where there is a peak at least.
  The walk of patterson.Peaks where there is a peak at least; the sort is given.
-/
import Derived.Test.YtehiabiahipkhaaGreatD1
import Derived.Test.YtehiabiahipkhaaGreatD2
import Derived.Deep.RegionLaw
namespace Go.Proofs.YtehiabiahipkhaaGreat
open Go.RowKit
set_option linter.unusedVariables false
set_option linter.unusedSimpArgs false

/-- The cells of a list of peaks. -/
def flatP (ps : List Pk) : List Value := ps.flatMap pkL
theorem flatP_length (ps : List Pk) : (flatP ps).length = ps.length * 4 := by
  induction ps with
  | nil => rfl
  | cons p ps ih => show (pkL p ++ flatP ps).length = _; rw [List.length_append, ih, pkL_length, List.length_cons]; omega
theorem flatP_snoc (ps : List Pk) (p : Pk) : flatP (ps ++ [p]) = flatP ps ++ pkL p := by simp [flatP]
theorem flatP_get (ps : List Pk) (i u : Nat) (hi : i < ps.length) (hu : u < 4) : (flatP ps)[i * 4 + u]? = (pkL (ps.getD i default))[u]? := by
  induction ps generalizing i with
  | nil => simp at hi
  | cons p ps ih =>
    show (pkL p ++ flatP ps)[i * 4 + u]? = _
    cases i with
    | zero =>
      rw [List.getElem?_append_left (by rw [pkL_length]; omega)]
      simp
    | succ i =>
      rw [List.getElem?_append_right (by rw [pkL_length]; omega), pkL_length, show (i + 1) * 4 + u - 4 = i * 4 + u by omega, ih i (by simpa using hi)]
      simp
theorem flatP_one (ps : List Pk) : ∀ v ∈ flatP ps, v.oneCell' = true := fun v hv => by
  obtain ⟨p, _, h⟩ := List.mem_flatMap.1 hv
  exact pkL_one p v h

theorem owns_kept {w w' : World} {base size : Nat} {e : TypeId} {v : Value} {n : Nat} {xs : List Value} (h : w.ownsRow base e size v n xs) (hk : ∀ k, base ≤ k → k < w.heap.size → w'.heap[k]? = w.heap[k]?) : w'.ownsRow base e size v n xs := by
  refine ⟨h.1, ?_⟩
  rcases h.2 with hn | ⟨g, cap, cur, rfl, hbg, hg, rest⟩
  · exact .inl hn
  · exact .inr ⟨g, cap, cur, rfl, hbg, by rw [hk g hbg (Array.getElem?_eq_some_iff.1 hg).1]; exact hg, rest⟩

/-- A row of peaks of the call's own. -/
theorem prow_of_own {w : World} {T : TypeId} {base : Nat} {v : Value} {n : Nat} {ps : List Pk} (h : w.ownsRow base T 4 v n (flatP ps)) (hn : n = ps.length) (h0 : 0 < n) :
    ∃ g cap, v = .slice (some ⟨g, 0, none⟩) n cap ∧ base ≤ g ∧ g < w.heap.size ∧ PRow w g ps := by
  subst hn
  rcases h.2 with ⟨_, h'⟩ | ⟨g, cap, cur, rfl, hb, hg, _⟩
  · omega
  · refine ⟨g, cap, rfl, hb, (Array.getElem?_eq_some_iff.1 hg).1, fun i hi u x hx => ?_⟩
    have hu : u < 4 := by have := (List.getElem?_eq_some_iff.1 hx).1; rwa [pkL_length] at this
    refine ⟨?_, World.ownsRow.frozenAt h _⟩
    rw [World.ownsRow.cellAt h (i * 4 + u) (by omega), flatP_get ps i u hi hu]
    exact hx

theorem step_append_pk {P : Program} {w : World} {ops : Array Oper} {o : Oper} {a : Act} {K : Act → World → Prop} {Q : Exit → Act → World → Prop} {E : Prop} (hgd : o.guard = none) (s x : Operand) (t : TypeId)
    (ho : o.op = .call { callee := .builtin .append, args := #[s, x], argTypes := #[t, t] })
    (e : TypeId) (i : TypeInfo) (z : Value) (bytes : Nat) (ht : P.underlying t = some (.slice e)) (hi : P.info? e = some i) (hz : i.zero = some z)
    (hsize : i.size = 4) (hby : i.bytes = bytes) (hzs : z.cells.size = 4)
    (v : Value) (n : Nat) (ps : List Pk) (hs : a.eval s = v) (base : Nat) (hbase : base ≤ w.heap.size) (hown : w.ownsRow base e 4 v n (flatP ps))
    (ad : Addr) (c : Nat) (p : Pk) (hx : a.eval x = .slice (some ad) 1 c) (hc : ∀ u y, (pkL p)[u]? = some y → w.cell? (ad.add u) = some y) (hn : n + 1 ≤ 1000000000) (hbytes : (n + 1) * bytes ≤ 140737488355328)
    (h : ∀ v' w', w'.ownsRow base e 4 v' (n + 1) (flatP (ps ++ [p])) → Below base w w' → K (a.put o.dst v') w') :
    if Region.wanted o (yielded ops a.tmps) = true then Oper.wp P o a w K Q else E := by
  have hw : Region.wanted o (yielded ops a.tmps) = true := by simp [Region.wanted, hgd]
  rw [if_pos hw]
  obtain ⟨v', w', hr, h2, h3, _⟩ := run_append_own (P := P) w base t o.type e i z 4 bytes ht hi hz hsize hby hzs (by omega) v n (flatP ps) hown ad 1 c (pkL p) (by rw [pkL_length]) hc (pkL_one p) (by unfold maxLen; omega) hbytes hbase
  unfold Oper.wp execOp
  simp only [ho, resolve, invoke, builtin, Sem.run_bind, Sem.run_pure, Result.andThen_ok, List.map_toArray, List.map_cons, List.map_nil, hs, hx, hr]
  refine h v' w' ?_ ((Below.refl base w).grown h3 hbase fun k hk => (hown.lt k hk).1)
  rw [flatP_snoc]
  exact h2

/-- The peaks among the first k places. -/
def pkList (n0 n1 n2 : Nat) (cs : List Int) (lv : Int) : Nat → List Pk
  | 0 => []
  | k + 1 => if lv < cs.getD k 0 ∧ isTop n0 n1 n2 cs k then pkList n0 n1 n2 cs lv k ++ [⟨(k / n2 / n1 : Nat), (k / n2 % n1 : Nat), (k % n2 : Nat), cs.getD k 0⟩] else pkList n0 n1 n2 cs lv k
theorem pkList_le (n0 n1 n2 : Nat) (cs : List Int) (lv : Int) (k : Nat) : (pkList n0 n1 n2 cs lv k).length ≤ k := by
  induction k with
  | zero => simp [pkList]
  | succ k ih =>
    unfold pkList
    split
    · rw [List.length_append]; simp; omega
    · omega

end Go.Proofs.YtehiabiahipkhaaGreat

namespace Go.Proofs.YtehiabiahipkhaaGreat
open Go.RowKit
set_option linter.unusedVariables false
set_option linter.unusedSimpArgs false

/-- What sort.SliceStable makes of so many peaks. -/
def SortsTo (ps qs : List Pk) : Prop := ∀ (p g c : Nat) (w : World), w.cell? ⟨p, 0, none⟩ = some (.slice (some ⟨g, 0, none⟩) ps.length c) → PRow w g ps → p ≠ g → g < w.heap.size →
  Calls Tryz.prog 36 #[.iface 38 (.slice (some ⟨g, 0, none⟩) ps.length c), lessV p] w fun e w' => e = .returned (.tuple #[]) ∧ PRow w' g qs ∧ Below g w w'
theorem sortsTo_few (ps : List Pk) (h2 : 2 ≤ ps.length) (h20 : ps.length < 20) : SortsTo ps (insL 0 ps (ps.length - 1)) := fun p g c w hp h hpg hg => sstable_few p g ps.length c ps w hp h rfl hpg hg h2 h20

theorem pk_new (W : World) (p : Pk) (T : TypeId) : ∀ u y, (pkL p)[u]? = some y → (W.alloc (.cells #[.int .i64 p.a, .int .i64 p.b, .int .i64 p.c, .int .i64 p.v] T)).cell? ((⟨W.heap.size, 0, none⟩ : Addr).add u) = some y := fun u y hu => by
  have hadd : (⟨W.heap.size, 0, none⟩ : Addr).add u = ⟨W.heap.size, u, none⟩ := by unfold Addr.add; split <;> simp_all
  rw [hadd, cell_new, ← hu]
  simp [pkL]
theorem owns_bel4 {w w' : World} {base size : Nat} {e : TypeId} {v : Value} {n : Nat} {xs : List Value} (h : w.ownsRow base e size v n xs) (hb : Bel w w') : w'.ownsRow base e size v n xs := owns_kept h fun k _ hk => hb.block k hk

theorem owns_form {w : World} {base size : Nat} {e : TypeId} {v : Value} {n : Nat} {xs : List Value} (h : w.ownsRow base e size v n xs) : ∃ ao cap, v = .slice ao n cap := by
  rcases h.2 with ⟨rfl, rfl⟩ | ⟨g, cap, cur, rfl, _⟩
  · exact ⟨_, _, rfl⟩
  · exact ⟨_, _, rfl⟩

theorem Bel.trans' {a b c : World} {B : Nat} (h : Bel a b) (k : Below B b c) (hB : a.heap.size ≤ B) : Bel a c := Below.trans h (Below.mono k hB)

theorem info_peak : (Tryz.prog.info? 45).map (fun i => (i.zero, i.size, i.bytes)) = some (some (.agg #[.int .i64 0, .int .i64 0, .int .i64 0, .int .i64 0]), 4, 32) := by kernel_rfl

set_option maxHeartbeats 8000000 in
set_option maxRecDepth 100000 in
theorem peaks_some (b off cap n0 n1 n2 L : Nat) (lv : Int) (cs : List Int) (qs : List Pk) (w : World) (hs : P3 n0 n1 n2 L) (hl : cs.length = L) (h1 : 1 ≤ (pkList n0 n1 n2 cs lv L).length)
    (hsort : SortsTo (pkList n0 n1 n2 cs lv L) qs)
    (hx : ∀ i, i < L → w.cell? ⟨b, off + i, none⟩ = some (iV (cs.getD i 0))) :
    Calls Tryz.prog 15 #[countV n0 n1 n2 (some ⟨b, off, none⟩) L cap, .int .i64 lv] w fun e w' =>
      (∃ g c, e = .returned (.tuple #[.slice (some ⟨g, 0, none⟩) (pkList n0 n1 n2 cs lv L).length c, .int .i64 0]) ∧ w.heap.size ≤ g ∧ PRow w' g qs) ∧ Bel w w' := by
  obtain ⟨i0, hi, hz0, hz1, hz2⟩ : ∃ i, Tryz.prog.info? 45 = some i ∧ i.zero = some (.agg #[.int .i64 0, .int .i64 0, .int .i64 0, .int .i64 0]) ∧ i.size = 4 ∧ i.bytes = 32 := by
    have k2 := info_peak
    cases hh : Tryz.prog.info? 45 with
    | none => rw [hh] at k2; cases k2
    | some i => rw [hh] at k2; simp at k2; exact ⟨i, rfl, k2⟩
  have hside : SideE false n0 n1 n2 0 := by
    have key : ∀ n : Nat, 1 ≤ n → n ≤ 192 → ¬ badS false (n : Int) := fun n h1 h2 h => by
      rcases h with h | h | ⟨h, _⟩
      · omega
      · omega
      · cases h
    refine Or.inr (Or.inr ⟨key _ hs.a.1 hs.a.2, key _ hs.b.1 hs.b.2, key _ hs.c.1 hs.c.2, ?_, rfl⟩)
    have h1 := hs.p
    have h2 := hs.l
    rw [← h1] at h2
    have e : (n0 : Int) * n1 * n2 = ((n0 * n1 * n2 : Nat) : Int) := by simp
    rw [e]; omega
  have p1 : n0 * n1 ≤ 192 * 192 := Nat.mul_le_mul hs.a.2 hs.b.2
  have q1 : IntKind.i64.wrap ((n0 : Int) * n1) = (n0 : Int) * n1 := by rw [← Int.natCast_mul]; exact IntWalk.i64_in _ (by omega)
  have q2 : IntKind.i64.wrap ((n0 : Int) * n1 * n2) = (L : Int) := by
    have := hs.l
    rw [← Int.natCast_mul, ← Int.natCast_mul, hs.p]; exact IntWalk.i64_in _ (by omega)
  have HQ := Lib.hid (And.intro q1 q2)
  have HZ := Lib.hid hside
  have HS := Lib.hid hs
  have HL := Lib.hid hl
  have HX := Lib.hid hx
  have H1 := Lib.hid h1
  have HSO := Lib.hid hsort
  have HI := Lib.hid (And.intro hi (And.intro hz0 (And.intro hz1 hz2)))
  have hL := hs.l
  clear hside p1 q1 q2 hs hl hx h1 hsort hi hz0 hz1 hz2
  have HB : Hid (Bel w (w.alloc (.cells #[.int .i64 n0, .int .i64 n1, .int .i64 n2, .slice (some ⟨b, off, none⟩) L cap] 26))) := (Bel.refl w).alloc _
  have K1 : Hid (CVar (w.alloc (.cells #[.int .i64 n0, .int .i64 n1, .int .i64 n2, .slice (some ⟨b, off, none⟩) L cap] 26)) w.heap.size n0 n1 n2 (some ⟨b, off, none⟩) L cap) := cvar_new w _ _ _ _ _ _ _
  go_enter Tryz.func15, Tryz.ntmps15
  go_wp2_with fail
  generalize World.alloc _ _ = W at HB K1 ⊢
  have hp1l : w.heap.size < W.heap.size := by simpa using World.block_lt_of_cell? _ _ K1.out.1
  generalize w.heap.size = p1 at K1 hp1l ⊢
  refine (sides_any false n0 n1 n2 _).mono ?_
  rintro e w1 ⟨⟨z1, rfl, hz1⟩, hb1⟩
  obtain rfl := HZ.out.det hz1
  obtain ⟨x0, x1, x2, x3⟩ := K1.out.bel hb1
  obtain ⟨q1, q2⟩ := HQ.out
  have HB1 := Lib.hid hb1
  have hp1w : p1 < w1.heap.size := by have := hb1.size; omega
  clear hz1 hb1
  go_wp2_with fail
  clear x0 x1 x2 x3 q1 q2
  have HB2 : Hid (Bel w1 (w1.alloc (.cells #[.slice none 0 0] 38))) := (Bel.refl w1).alloc _
  have HC2 : Hid ((w1.alloc (.cells #[.slice none 0 0] 38)).cell? ⟨w1.heap.size, 0, none⟩ = some (.slice none 0 0) ∧ (w1.alloc (.cells #[.slice none 0 0] 38)).frozen? ⟨w1.heap.size, 0, none⟩ = false) := ⟨cell_new _ _ _ 0, frozen_new _ _ _ _⟩
  have HZ2 : Hid ((w1.alloc (.cells #[.slice none 0 0] 38)).heap.size = w1.heap.size + 1) := size_alloc' _ _
  generalize World.alloc _ _ = W2 at HB2 HC2 HZ2 ⊢
  have hW1 := HB1.out.size
  generalize hp7 : w1.heap.size = p7 at HC2 HZ2 hp1w hW1 ⊢
  have HP7 : Hid (w1.heap.size ≤ p7) := by unfold Hid; omega
  clear hp7
  have HM : Hid (∀ k, (pkList n0 n1 n2 cs lv k).length ≤ k) := fun k => pkList_le n0 n1 n2 cs lv k
  go_loopw [34] (fun iv wr => ∃ (k : Nat) (v : Value), k ≤ L ∧ iv = .int .i64 k ∧ wr.cell? ⟨p7, 0, none⟩ = some v ∧ wr.frozen? ⟨p7, 0, none⟩ = false ∧ wr.ownsRow (p7 + 1) 45 4 v (pkList n0 n1 n2 cs lv k).length (flatP (pkList n0 n1 n2 cs lv k)) ∧ Bel w1 wr ∧ p7 + 1 ≤ wr.heap.size) (fun iv _ => L - (intOf iv).toNat)
  case atStart => exact ⟨0, _, Nat.zero_le _, rfl, HC2.out.1, HC2.out.2, World.ownsRow_nil _ _ _ _, HB2.out, by rw [HZ2.out]; exact Nat.le_refl _⟩
  case round =>
    clear HB2 HC2 HZ2
    obtain ⟨k, v, hk, rfl, hv, hvf, hown, hbw, hsz⟩ := hrel
    by_cases hlt : k < L
    · have hcell := (HB.out.trans (HB1.out.trans hbw)).cellv (HX.out k hlt)
      have hki : (k : Int) < L := by omega
      have hml := HM.out k
      have HST : Hid (∀ c : Prop, (lv < cs.getD k 0 ∧ isTop n0 n1 n2 cs k → c) → True) := fun _ _ => trivial
      have hstep : pkList n0 n1 n2 cs lv (k + 1) = if lv < cs.getD k 0 ∧ isTop n0 n1 n2 cs k then pkList n0 n1 n2 cs lv k ++ [⟨(k / n2 / n1 : Nat), (k / n2 % n1 : Nat), (k % n2 : Nat), cs.getD k 0⟩] else pkList n0 n1 n2 cs lv k := rfl
      have HTOP := Lib.hid (top_any b off cap n0 n1 n2 L k cs wr HS.out HL.out hlt fun i hi => (HB.out.trans (HB1.out.trans hbw)).cellv (HX.out i hi))
      obtain ⟨z, hz⟩ : ∃ z, cs.getD k 0 = z := ⟨_, rfl⟩
      rw [hz] at hcell hstep
      have HSTEP := Lib.hid hstep
      have HOW := Lib.hid hown
      have HBW := Lib.hid hbw
      have HVF := Lib.hid hvf
      have HVC := Lib.hid hv
      have HK := Lib.hid (K1.out.bel (HB1.out.trans hbw))
      obtain ⟨x0, x1, x2, x3⟩ := HK.out
      clear hstep hz hown hbw hvf hv HST
      by_cases hzl : lv < z
      · by_cases ht : isTop n0 n1 n2 cs k
        · rw [decide_eq_true ht] at HTOP
          rw [if_pos ⟨hzl, ht⟩] at HSTEP
          clear ht
          have HPL := Lib.hid (fun W => place_any n0 n1 n2 k W HS.out.b.1 HS.out.c.1 HS.out.b.2 HS.out.c.2 (by omega))
          generalize hps : pkList n0 n1 n2 cs lv k = ps at HSTEP HOW hml
          clear hps
          generalize k / n2 / n1 = v0 at *
          generalize k / n2 % n1 = v1 at *
          generalize k % n2 = v2 at *
          go_wp2_with fail
          refine HTOP.out.mono ?_
          rintro e w3 ⟨rfl, hb3⟩
          have HOW3 := Lib.hid (owns_bel4 HOW.out hb3)
          have hv3 := hb3.cellv HVC.out
          have hvf3 := (hb3.frozen (World.block_lt_of_cell? _ _ HVC.out)).trans HVF.out
          obtain ⟨y0, y1, y2, y3⟩ := HK.out.bel hb3
          have HB3 := Lib.hid (HBW.out.trans hb3)
          have hsz3 : p7 + 1 ≤ w3.heap.size := Nat.le_trans hsz hb3.size
          have hp1s : p1 < w3.heap.size := by omega
          clear x0 x1 x2 x3 hcell hb3 HOW HBW HVC HVF
          go_wp2_with fail
          obtain ⟨hi, hz0, hz1, hz2⟩ := HI.out
          have hb0 : Bel w3 w3.drew := (Bel.refl w3).drew
          go_region_law (first
            | (refine step_append_pk rfl _ _ 38 rfl 45 i0 _ 32 Tryz.underlying38 hi hz0 hz1 hz2 rfl v _ ps rfl (p7 + 1) (by rw [size_alloc']; exact Nat.le_trans hs5 (Nat.le_succ _)) (owns_bel4 HOW3.out (hb5.alloc _)) _ 1 ⟨v0, v1, v2, z⟩ rfl (pk_new _ ⟨v0, v1, v2, z⟩ _) (by omega) (by omega) ?_; intro v6 w6 ho6 hb6; obtain ⟨ao6, cp6, rfl⟩ := owns_form ho6; have hv6 := (hb6.cell (p := ⟨p7, 0, none⟩) (by show p7 < p7 + 1; omega)).trans ((hb5.alloc _).cellv hv3); have hf6 := (hb6.frozen (p := ⟨p7, 0, none⟩) (by show p7 < p7 + 1; omega)).trans (((hb5.alloc _).frozen (World.block_lt_of_cell? _ _ hv3)).trans hvf3))
            | (go_simp; go_at_call 29; (with_reducible refine (HPL.out _).mono ?_); rintro e w5 ⟨rfl, hb5'⟩; have hb5 := hb0.trans hb5'; have hv5 := hb5.cellv hv3; have hvf5 := (hb5.frozen (World.block_lt_of_cell? _ _ hv3)).trans hvf3; have hs5 : p7 + 1 ≤ w5.heap.size := Nat.le_trans hsz3 hb5.size; have hs5' : p7 < w5.heap.size := hs5))
          all_goals (
            go_wp2_with fail
            go_roundw
            case rel =>
              have hs6 : w5.heap.size + 1 ≤ w6.heap.size := by have := hb6.size; rw [size_alloc'] at this; exact this
              refine ⟨k + 1, _, by omega, by go_num, World.cell?_setCell_same' _ _ _ (by rw [hv6]; rfl), by simp [hf6], ?_, ?_, ?_⟩
              · rw [HSTEP.out, List.length_append]
                exact owns_kept ho6 fun q hq _ => Below.heap_setCell _ _ _ _ (by show q ≠ p7; omega)
              · have h7 : Bel w1 w6 := (HB3.out.trans (hb5.alloc _)).trans' hb6 (Nat.le_trans HP7.out (Nat.le_succ _))
                exact h7.setCell HP7.out _
              · show p7 + 1 ≤ (w6.setCell _ _).heap.size
                rw [World.size_setCell]; omega
            case measure => simp [intOf]; omega)
        · rw [decide_eq_false ht] at HTOP
          rw [if_neg (fun h => ht h.2)] at HSTEP
          clear ht
          go_wp2_with fail
          refine HTOP.out.mono ?_
          rintro e w3 ⟨rfl, hb3⟩
          have hb3' := Lib.hid hb3
          clear x0 x1 x2 x3 hcell hb3
          go_wp2_with fail
          go_roundw
          case rel => exact ⟨k + 1, v, by omega, by go_num, hb3'.out.cellv HVC.out, (hb3'.out.frozen (World.block_lt_of_cell? _ _ HVC.out)).trans HVF.out, by rw [HSTEP.out]; exact owns_bel4 HOW.out hb3'.out, HBW.out.trans hb3'.out, Nat.le_trans hsz hb3'.out.size⟩
          case measure => simp [intOf]; omega
      · rw [if_neg (fun h => hzl h.1)] at HSTEP
        have HW := HVC
        clear x0 x1 x2 x3
        go_wp2_with fail
        go_roundw
        case rel => exact ⟨k + 1, v, by omega, by go_num, HVC.out, HVF.out, by rw [HSTEP.out]; exact HOW.out, HBW.out, hsz⟩
        case measure => simp [intOf]; omega
    · have hkl : k = L := by omega
      subst hkl
      obtain ⟨g, c7, rfl, hbg, hgl, hrow⟩ := prow_of_own hown rfl H1.out
      have HSC := Lib.hid (HSO.out p7 g c7 wr hv hrow (by omega) hgl)
      have HVC := Lib.hid hv
      have HBW := Lib.hid hbw
      have hgb : w1.heap.size ≤ g := Nat.le_trans HP7.out (by omega)
      have hp7g : p7 < g := by omega
      have hp7l : p7 < wr.heap.size := by omega
      clear hown hbw hrow
      go_wp2_with fail
      refine HSC.out.mono ?_
      rintro e w3 ⟨rfl, hr3, hb3⟩
      have hv3 := (hb3.cell (p := ⟨p7, 0, none⟩) hp7g).trans HVC.out
      have HR := Lib.hid hr3
      have HBF : Hid (Bel w w3) := (HB.out.trans (HB1.out.trans HBW.out)).trans' hb3 (by have := (HB.out.trans HB1.out).size; omega)
      clear hr3 hb3 hv
      go_wp2_with fail
      have hwg : w.heap.size ≤ g := by have := (HB.out.trans HB1.out).size; omega
      go_ret2
      exact ⟨⟨g, c7, rfl, hwg, HR.out⟩, HBF.out⟩

end Go.Proofs.YtehiabiahipkhaaGreat
