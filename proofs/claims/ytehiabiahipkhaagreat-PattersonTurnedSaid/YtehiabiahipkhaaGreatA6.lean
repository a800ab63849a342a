/-
  The walks of ntt.counts and ntt.forward.
  The walk of ntt.forward.
  The walk of ntt.Fold.
-/
import Derived.Test.YtehiabiahipkhaaGreatA5
import Derived.Deep.Cut
import Derived.Deep.CutRange
import Derived.Deep.RegionWith
import Derived.Laws.StructEq
namespace Go.Proofs.YtehiabiahipkhaaGreat
open Go.RowKit
set_option linter.unusedVariables false
set_option linter.unusedSimpArgs false

@[go_sem] theorem pindex3_0 (x0 x1 x2 : Value) (w : World) : (Instr.index 23 (.agg #[x0, x1, x2]) (.int .i64 0)).run Tryz.prog w = .ok x0 w := by kernel_rfl
@[go_sem] theorem pindex3_1 (x0 x1 x2 : Value) (w : World) : (Instr.index 23 (.agg #[x0, x1, x2]) (.int .i64 1)).run Tryz.prog w = .ok x1 w := by kernel_rfl
@[go_sem] theorem pindex3_2 (x0 x1 x2 : Value) (w : World) : (Instr.index 23 (.agg #[x0, x1, x2]) (.int .i64 2)).run Tryz.prog w = .ok x2 w := by kernel_rfl

/-- An int. -/
abbrev iV (z : Int) : Value := .int .i64 z
/-- A row of ints of the call's own. -/
abbrev IArr (w : World) (g cap : Nat) (xs : List Int) : Prop := Arr 3 iV w g cap xs
/-- An api.Counts. -/
abbrev countV (n0 n1 n2 : Int) (ao : Option Addr) (m c : Nat) : Value := .agg #[.int .i64 n0, .int .i64 n1, .int .i64 n2, .slice ao m c]
/-- A variable that holds an api.Counts. -/
def CVar (W : World) (p : Nat) (n0 n1 n2 : Int) (ao : Option Addr) (m c : Nat) : Prop :=
  W.cell? ⟨p, 0, none⟩ = some (.int .i64 n0) ∧ W.cell? ⟨p, 1, none⟩ = some (.int .i64 n1) ∧ W.cell? ⟨p, 2, none⟩ = some (.int .i64 n2) ∧ W.cell? ⟨p, 3, none⟩ = some (.slice ao m c)
theorem CVar.bel {W W' : World} {p : Nat} {n0 n1 n2 : Int} {ao : Option Addr} {m c : Nat} (h : CVar W p n0 n1 n2 ao m c) (hb : Bel W W') : CVar W' p n0 n1 n2 ao m c :=
  ⟨hb.cellv h.1, hb.cellv h.2.1, hb.cellv h.2.2.1, hb.cellv h.2.2.2⟩
theorem cvar_new (W : World) (n0 n1 n2 : Int) (ao : Option Addr) (m c : Nat) (T : TypeId) : CVar (W.alloc (.cells #[.int .i64 n0, .int .i64 n1, .int .i64 n2, .slice ao m c] T)) W.heap.size n0 n1 n2 ao m c :=
  ⟨cell_new _ _ _ 0, cell_new _ _ _ 1, cell_new _ _ _ 2, cell_new _ _ _ 3⟩

/-- Numbers within the bound. -/
def Within (cs : List Int) : Prop := ∀ i, i < cs.length → -1048576 ≤ cs.getD i 0 ∧ cs.getD i 0 ≤ 1048576
/-- Three right sides. -/
structure S3 (n0 n1 n2 L : Nat) : Prop where
  a : 1 ≤ n0 ∧ n0 ≤ 192 ∧ 192 % n0 = 0
  b : 1 ≤ n1 ∧ n1 ≤ 192 ∧ 192 % n1 = 0
  c : 1 ≤ n2 ∧ n2 ≤ 192 ∧ 192 % n2 = 0
  p : n0 * n1 * n2 = L
  l : L ≤ 262144

set_option maxHeartbeats 2000000 in
theorem counts_any (b off cap n0 n1 n2 L : Nat) (cs : List Int) (w : World) (hs : S3 n0 n1 n2 L) (hl : cs.length = L)
    (hx : ∀ i, i < L → w.cell? ⟨b, off + i, none⟩ = some (iV (cs.getD i 0))) :
    Calls Tryz.prog 48 #[countV n0 n1 n2 (some ⟨b, off, none⟩) L cap] w fun e w' => (∃ z : Int, e = .returned (.int .i64 z) ∧ ((z = 0 ∧ Within cs) ∨ (z = 4 ∧ ¬ Within cs))) ∧ Bel w w' := by
  have HS := Lib.hid hs
  have HL := Lib.hid hl
  have HX := Lib.hid hx
  clear hs hl hx
  go_enter Tryz.func48, Tryz.ntmps48
  go_wp2_with fail
  have K : Hid (CVar (w.alloc (.cells #[.int .i64 n0, .int .i64 n1, .int .i64 n2, .slice (some ⟨b, off, none⟩) L cap] 26)) w.heap.size n0 n1 n2 (some ⟨b, off, none⟩) L cap) := cvar_new _ _ _ _ _ _ _ _
  have st := Lib.hid ((Bel.refl w).alloc (.cells #[.int .i64 n0, .int .i64 n1, .int .i64 n2, .slice (some ⟨b, off, none⟩) L cap] 26))
  generalize World.alloc _ _ = W at K st ⊢
  go_loopw [10] (fun i wr => ∃ j : Nat, i = .int .i64 j ∧ j ≤ 3 ∧ wr = W) (fun i _ => 3 - (intOf i).toNat)
  case atStart => exact ⟨0, rfl, by omega, rfl⟩
  case round =>
    obtain ⟨j, rfl, hj, hwr⟩ := hrel
    subst hwr
    obtain ⟨W, rfl⟩ : ∃ W : World, W = wr := ⟨_, rfl⟩
    rcases (by omega : j = 0 ∨ j = 1 ∨ j = 2 ∨ j = 3) with rfl | rfl | rfl | rfl
    · go_wp2_with fail
      refine (right_yes n0 HS.out.a.1 HS.out.a.2.1 HS.out.a.2.2 _).mono ?_
      rintro e w1 ⟨rfl, rfl⟩
      go_wp2_with fail
      go_roundw
      case rel => exact ⟨1, rfl, by omega, by first | rfl | trivial⟩
      case measure => simp [intOf]
    · go_wp2_with fail
      refine (right_yes n1 HS.out.b.1 HS.out.b.2.1 HS.out.b.2.2 _).mono ?_
      rintro e w1 ⟨rfl, rfl⟩
      go_wp2_with fail
      go_roundw
      case rel => exact ⟨2, rfl, by omega, by first | rfl | trivial⟩
      case measure => simp [intOf]
    · go_wp2_with fail
      refine (right_yes n2 HS.out.c.1 HS.out.c.2.1 HS.out.c.2.2 _).mono ?_
      rintro e w1 ⟨rfl, rfl⟩
      go_wp2_with fail
      go_roundw
      case rel => exact ⟨3, rfl, by omega, by first | rfl | trivial⟩
      case measure => simp [intOf]
    · obtain ⟨x0, x1, x2, x3⟩ := K.out
      have hp1 : n0 * n1 ≤ 192 * 192 := Nat.mul_le_mul HS.out.a.2.1 HS.out.b.2.1
      have q1 : IntKind.i64.wrap ((n0 : Int) * n1) = (n0 : Int) * n1 := IntWalk.i64_in _ (by rw [← Int.natCast_mul]; omega)
      have q2 : IntKind.i64.wrap ((n0 : Int) * n1 * n2) = (L : Int) := by
        have := HS.out.l
        rw [← HS.out.p, Int.natCast_mul, Int.natCast_mul]; exact IntWalk.i64_in _ (by rw [← Int.natCast_mul, ← Int.natCast_mul, HS.out.p]; omega)
      have hL := HS.out.l
      have hLi : ¬ ((262144 : Int) < L) := by omega
      clear hp1
      go_wp2_with fail
      clear x0 x1 x2 x3 q1 q2 hLi
      go_loopw [38] (fun i wr => ∃ k : Nat, k ≤ L ∧ i = .int .i64 k ∧ (∀ i, i < k → -1048576 ≤ cs.getD i 0 ∧ cs.getD i 0 ≤ 1048576) ∧ wr = W) (fun i _ => L - (intOf i).toNat)
      case atStart => exact ⟨0, Nat.zero_le _, rfl, fun i hi => absurd hi (by omega), rfl⟩
      case round =>
        obtain ⟨k, hk, rfl, hal, hwr⟩ := hrel
        subst hwr
        obtain ⟨W, rfl⟩ : ∃ W : World, W = wr := ⟨_, rfl⟩
        by_cases hlt : k < L
        · have hcell := st.out.cellv (HX.out k hlt)
          have HAL := Lib.hid hal
          have hki : (k : Int) < L := by omega
          obtain ⟨z, hz⟩ : ∃ z, cs.getD k 0 = z := ⟨_, rfl⟩
          rw [hz] at hcell
          have HZ := Lib.hid hz
          have HLT := Lib.hid hlt
          clear hal hz
          by_cases h1 : z < -1048576
          · go_wp2_with fail
            go_ret
            refine ⟨⟨4, rfl, Or.inr ⟨rfl, fun hw => ?_⟩⟩, st.out⟩
            have := hw k (by rw [HL.out]; exact HLT.out)
            rw [HZ.out] at this
            omega
          · by_cases h2 : 1048576 < z
            · go_wp2_with fail
              go_ret
              refine ⟨⟨4, rfl, Or.inr ⟨rfl, fun hw => ?_⟩⟩, st.out⟩
              have := hw k (by rw [HL.out]; exact HLT.out)
              rw [HZ.out] at this
              omega
            · have HZB : Hid (-1048576 ≤ z ∧ z ≤ 1048576) := ⟨by omega, by omega⟩
              go_wp2_with fail
              go_roundw
              case rel =>
                refine ⟨k + 1, by omega, by go_num, fun i hi => ?_, by first | rfl | trivial⟩
                by_cases hik : i < k
                · exact HAL.out i hik
                · obtain rfl : i = k := by omega
                  rw [HZ.out]; exact HZB.out
              case measure => simp [intOf]; omega
        · have hkl : L = k := by omega
          subst hkl
          have HAL := Lib.hid hal
          clear hal
          go_wp2_with fail
          go_ret
          exact ⟨⟨0, rfl, Or.inl ⟨rfl, fun i hi => HAL.out i (by rw [HL.out] at hi; exact hi)⟩⟩, st.out⟩

end Go.Proofs.YtehiabiahipkhaaGreat

namespace Go.Proofs.YtehiabiahipkhaaGreat
open Go.RowKit
set_option linter.unusedVariables false
set_option linter.unusedSimpArgs false

/-- A whole number modulo the prime. -/
def resN (z : Int) : Nat := if z < 0 then 18446744069414584321 - z.natAbs else z.natAbs
theorem resN_lt {z : Int} (h : z.natAbs ≤ 1048576) : resN z < pr := by
  rw [pr_eq]; unfold resN; split <;> omega
/-- The numbers along the three edges. -/
def fS0 (cs : List Int) : List Nat := cs.map resN
def fS1 (n0 n1 n2 L : Nat) (cs : List Int) : List Nat := alongA (fun l => nline 8 l (rootN n0)) n0 (n1 * n2) (fS0 cs) L
def fS2 (n0 n1 n2 L : Nat) (cs : List Int) : List Nat := alongA (fun l => nline 8 l (rootN n1)) n1 n2 (fS1 n0 n1 n2 L cs) L
def fS3 (n0 n1 n2 L : Nat) (cs : List Int) : List Nat := alongA (fun l => nline 8 l (rootN n2)) n2 1 (fS2 n0 n1 n2 L cs) L
def fS (n0 n1 n2 L : Nat) (cs : List Int) (e : Nat) : List Nat := if e = 0 then fS0 cs else if e = 1 then fS1 n0 n1 n2 L cs else if e = 2 then fS2 n0 n1 n2 L cs else fS3 n0 n1 n2 L cs
theorem fS_length (n0 n1 n2 L : Nat) (cs : List Int) (e : Nat) : (fS n0 n1 n2 L cs e).length = cs.length := by
  unfold fS fS3 fS2 fS1 fS0
  split
  · simp
  · split
    · simp [alongA_length]
    · split <;> simp [alongA_length]
theorem fS0_lt {cs : List Int} (h : ∀ z ∈ cs, z.natAbs ≤ 1048576) : ∀ x ∈ fS0 cs, x < pr := by
  intro x hx
  simp only [fS0, List.mem_map] at hx
  obtain ⟨z, hz, rfl⟩ := hx
  exact resN_lt (h z hz)
theorem fS_lt {n0 n1 n2 L : Nat} {cs : List Int} (h : ∀ z ∈ cs, z.natAbs ≤ 1048576) (e : Nat) : ∀ x ∈ fS n0 n1 n2 L cs e, x < pr := by
  have h0 := fS0_lt h
  have h1 : ∀ x ∈ fS1 n0 n1 n2 L cs, x < pr := alongA_lt h0 (fun _ => nline_lt _ _ _) _
  have h2 : ∀ x ∈ fS2 n0 n1 n2 L cs, x < pr := alongA_lt h1 (fun _ => nline_lt _ _ _) _
  have h3 : ∀ x ∈ fS3 n0 n1 n2 L cs, x < pr := alongA_lt h2 (fun _ => nline_lt _ _ _) _
  unfold fS
  split
  · exact h0
  · split
    · exact h1
    · split
      · exact h2
      · exact h3

set_option maxHeartbeats 4000000 in
set_option maxRecDepth 100000 in
theorem forward_any (b off cap n0 n1 n2 L : Nat) (cs : List Int) (w : World) (hs : S3 n0 n1 n2 L) (hl : cs.length = L) (hz : ∀ z ∈ cs, z.natAbs ≤ 1048576)
    (hx : ∀ i, i < L → w.cell? ⟨b, off + i, none⟩ = some (iV (cs.getD i 0))) :
    Calls Tryz.prog 49 #[countV n0 n1 n2 (some ⟨b, off, none⟩) L cap] w fun e w' => RetArr 59 nV L (fS3 n0 n1 n2 L cs) w e w' ∧ Bel w w' := by
  obtain ⟨i0, hi, hz0, hz1, hz2⟩ := info_parts' info_n
  have HS := Lib.hid hs
  have HL := Lib.hid hl
  have HX := Lib.hid hx
  have HLT := Lib.hid (fun e => fS_lt (n0 := n0) (n1 := n1) (n2 := n2) (L := L) hz e)
  have HLEN : Hid (∀ e, (fS n0 n1 n2 L cs e).length = L) := fun e => by rw [fS_length, hl]
  have HZ : Hid (∀ i, i < L → (cs.getD i 0).natAbs ≤ 1048576) := fun i hi => by
    rw [List.getD_eq_getElem?_getD, List.getElem?_eq_getElem (by rw [hl]; exact hi)]
    exact hz _ (List.getElem_mem _)
  have HG : Hid (∀ i, i < L → (fS0 cs).getD i 0 = resN (cs.getD i 0)) := fun i hi => by
    simp [fS0, List.getD_eq_getElem?_getD, hl, hi]
  have hL := hs.l
  have n8 : 8 * L ≤ 281474976710656 := by omega
  have n9 : L ≤ 1000000000 := by omega
  clear hs hl hx hz
  go_enter Tryz.func49, Tryz.ntmps49
  go_wp2_with (first | (refine wpList_make_arr _ rfl (.tmp 10) (.tmp 10) 61 rfl 59 i0 nV 0 8 Tryz.underlying61 hi hz0 hz1 hz2 cells_n .i64 .i64 _ _ L rfl rfl rfl rfl n8 n9 ?_; intro w2 hrow hb2; have x3 := hb2.cellv (cell_new w _ 26 3)) | fail)
  have K : Hid (CVar (w.alloc (.cells #[.int .i64 n0, .int .i64 n1, .int .i64 n2, .slice (some ⟨b, off, none⟩) L cap] 26)) w.heap.size n0 n1 n2 (some ⟨b, off, none⟩) L cap) := cvar_new _ _ _ _ _ _ _ _
  have HB1 := Lib.hid ((Bel.refl w).alloc (.cells #[.int .i64 n0, .int .i64 n1, .int .i64 n2, .slice (some ⟨b, off, none⟩) L cap] 26))
  have HSZ1 : Hid ((w.alloc (.cells #[.int .i64 n0, .int .i64 n1, .int .i64 n2, .slice (some ⟨b, off, none⟩) L cap] 26)).heap.size = w.heap.size + 1) := size_alloc' _ _
  have HR : Hid (NArr w2 (w.heap.size + 1) L (List.replicate L 0)) := by have := hrow; rw [HSZ1.out] at this; exact this
  have HB2 := Lib.hid hb2
  clear hrow hb2 x3
  generalize hg1 : w.heap.size + 1 = g1 at HR HSZ1 ⊢
  have HGE : Hid (w.heap.size ≤ g1) := by unfold Hid; omega
  clear hg1
  generalize World.alloc _ _ = W at K HB1 HB2 HSZ1 ⊢
  have HLE : Hid (W.heap.size ≤ g1) := by have := HSZ1.out; unfold Hid; omega
  clear HSZ1
  go_loopw [15] (fun i wr => ∃ k : Nat, k ≤ L ∧ i = .int .i64 k ∧ NArr wr g1 L (filled (fS0 cs) k 0) ∧ Bel W wr) (fun i _ => L - (intOf i).toNat)
  case atStart =>
    have := HLEN.out 0
    exact ⟨0, Nat.zero_le _, rfl, HR.out.ext (by rw [filled_zero]; rw [show (fS0 cs).length = L from this]), HB2.out⟩
  case round =>
    clear HR HB2
    obtain ⟨k, hk, rfl, hv, hbw⟩ := hrel
    by_cases hlt : k < L
    · have hcell := (HB1.out.trans hbw).cellv (HX.out k hlt)
      have hla : (filled (fS0 cs) k 0).length = L := by rw [filled_length]; exact HLEN.out 0
      have hc := cellD_eq (hv.cell (i := k) (by rw [hla]; exact hlt) 0)
      have hf := hv.frozen k
      have HV : Hid (∀ x, (fS0 cs).getD k 0 = x → NArr (wr.setCell ⟨g1, k, none⟩ (nV x)) g1 L (filled (fS0 cs) (k + 1) 0)) := fun x hx => by
        subst hx; exact (hv.store k _).ext (filled_succ _ k 0)
      have HB := Lib.hid hbw
      have hki : (k : Int) < L := by omega
      have hzb := HZ.out k hlt
      have HGK := Lib.hid (HG.out k hlt)
      generalize cs.getD k 0 = z at hcell hzb HGK
      clear hv hbw hla
      by_cases hneg : z < 0
      · obtain ⟨a, ha⟩ : ∃ a : Nat, z = -(a : Int) := ⟨z.natAbs, by omega⟩
        subst ha
        have ha0 : 0 < a := by omega
        have ha1 : a ≤ 1048576 := by omega
        have f1 : IntKind.i64.wrap (a : Int) = (a : Int) := IntWalk.i64_in _ (by omega)
        have f2 : IntKind.u64.wrap (a : Int) = (a : Int) := Mul64.wrapN a (Nat.lt_of_le_of_lt ha1 (by decide))
        obtain ⟨y, hy⟩ : ∃ y, 18446744069414584321 - a = y := ⟨_, rfl⟩
        have f3 : IntKind.u64.wrap (18446744069414584321 - (a : Int)) = (y : Int) := by
          rw [show (18446744069414584321 : Int) - (a : Int) = (y : Int) by omega]; exact Mul64.wrapN y (by omega)
        have HY : Hid ((fS0 cs).getD k 0 = y) := by
          unfold Hid; rw [HGK.out]; unfold resN; rw [if_pos hneg, ← hy]; congr 1; omega
        clear hzb hy ha1 HGK ha0
        go_wp2_with fail
        go_roundw
        case rel => exact ⟨k + 1, by omega, by go_num, HV.out y HY.out, HB.out.setCell HLE.out _⟩
        case measure => simp [intOf]; omega
      · obtain ⟨a, ha⟩ : ∃ a : Nat, z = (a : Int) := ⟨z.natAbs, by omega⟩
        subst ha
        have f2 : IntKind.u64.wrap (a : Int) = (a : Int) := Mul64.wrapN a (by omega)
        have HY : Hid ((fS0 cs).getD k 0 = a) := by
          unfold Hid; rw [HGK.out]; unfold resN; rw [if_neg hneg]; omega
        clear hzb HGK
        go_wp2_with fail
        go_roundw
        case rel => exact ⟨k + 1, by omega, by go_num, HV.out a HY.out, HB.out.setCell HLE.out _⟩
        case measure => simp [intOf]; omega
    · have hkl : L = k := by omega
      subst hkl
      have HV : Hid (NArr wr g1 L (fS n0 n1 n2 L cs 0)) := hv.ext (by
        have := HLEN.out 0
        have e : (fS0 cs).length = L := this
        conv => lhs; rw [← e]
        exact filled_all _ _)
      have HB := Lib.hid hbw
      clear hv hbw
      go_wp2_with fail
      go_loopw [35] (fun i wq => ∃ e : Nat, e ≤ 3 ∧ i = .int .i64 e ∧ NArr wq g1 L (fS n0 n1 n2 L cs e) ∧ Bel W wq) (fun i _ => 3 - (intOf i).toNat)
      case atStart => exact ⟨0, by omega, rfl, HV.out, HB.out⟩
      case round =>
        clear HV HB
        obtain ⟨e, he, rfl, hv, hbw⟩ := hrel
        have h12 : n1 * n2 * n0 = L := by rw [← HS.out.p, Nat.mul_comm, ← Nat.mul_assoc]
        rcases (by omega : e = 0 ∨ e = 1 ∨ e = 2 ∨ e = 3) with rfl | rfl | rfl | rfl
        · obtain ⟨x0, x1, x2, x3⟩ := K.out.bel hbw
          have HV := Lib.hid hv
          have HB := Lib.hid hbw
          have hlg : g1 < wr.heap.size := hv.lt
          obtain ⟨wq, rfl⟩ : ∃ wq : World, wq = wr := ⟨_, rfl⟩
          clear hv hbw
          go_wp2_with fail
          refine (root_any n0 HS.out.a.1 HS.out.a.2.1 _).mono ?_
          rintro e w5 ⟨rfl, hb5⟩
          have st := hb5.trans ((Bel.refl w5).alloc (.cells #[nV (rootN n0)] 59))
          have hk := K.out.bel (HB.out.trans st)
          have HV5 := Lib.hid (HV.out.bel st)
          have HB5 := Lib.hid (HB.out.trans st)
          have hpw : (w5.alloc (.cells #[nV (rootN n0)] 59)).cell? ⟨w5.heap.size, 0, none⟩ = some (nV (rootN n0)) := cell_new _ _ _ 0
          have hg5 : g1 < w5.heap.size := Nat.lt_of_lt_of_le hlg hb5.size
          have HSZ : Hid (w5.heap.size < (w5.alloc (.cells #[nV (rootN n0)] 59)).heap.size) := by unfold Hid; rw [size_alloc']; omega
          obtain ⟨y0, y1, y2, y3⟩ := hk
          clear x0 x1 x2 x3 HV HB hb5 st
          go_wp2_with fail
          clear y0 y1 y2 y3
          generalize World.alloc _ _ = W6 at HV5 HB5 hpw HSZ ⊢
          generalize w5.heap.size = pw at hpw HSZ hg5 ⊢
          refine (nalong_fwd pw g1 L n0 n1 n2 0 n0 (n1 * n2) (1) L (fS n0 n1 n2 L cs 0) (fun l => nline 8 l (rootN n0)) (fun W => W.cell? ⟨pw, 0, none⟩ = some (nV (rootN n0))) W W6 (HLEN.out 0)
            (by omega) (by simp) ⟨HS.out.b.1, HS.out.b.2.1⟩ ⟨HS.out.c.1, HS.out.c.2.1⟩ HS.out.a.1 HS.out.a.2.1 (by rw [← HS.out.p]; rw [Nat.mul_one, ← Nat.mul_assoc]) hL (HLT.out 0) (fun l => nline_lt _ _ _) (fun l hl => by rw [nline_length (by rw [hl]; have := HS.out.a.2.1; omega) (by rw [hl]; exact HS.out.a.1), hl])
            (fun _ _ hb h => hb.cellv h) (fun _ _ _ h => cell_far h (by show pw ≠ g1; omega)) (fun _ q _ _ hq h => cell_far h (by have := HSZ.out; show pw ≠ q; omega)) hpw
            (fun W' b' ys h hl hp hc => fwd_any pw (rootN n0) b' 0 n0 n0 ys W' hl HS.out.a.2.2 HS.out.a.1 HS.out.a.2.1 (rootN_lt _) hp h hc) HV5.out HB5.out HLE.out).mono ?_
          rintro e1 w7 ⟨rfl, hv7, hb7, _⟩
          have HV7 : Hid (NArr w7 g1 L (fS n0 n1 n2 L cs 1)) := hv7
          have HB7 := Lib.hid hb7
          clear hv7 hb7 HV5 HB5
          go_wp2_with fail
          go_roundw
          case rel => exact ⟨1, by omega, rfl, HV7.out, HB7.out⟩
          case measure => simp [intOf]
        · obtain ⟨x0, x1, x2, x3⟩ := K.out.bel hbw
          have HV := Lib.hid hv
          have HB := Lib.hid hbw
          have hlg : g1 < wr.heap.size := hv.lt
          obtain ⟨wq, rfl⟩ : ∃ wq : World, wq = wr := ⟨_, rfl⟩
          clear hv hbw
          go_wp2_with fail
          refine (root_any n1 HS.out.b.1 HS.out.b.2.1 _).mono ?_
          rintro e w5 ⟨rfl, hb5⟩
          have st := hb5.trans ((Bel.refl w5).alloc (.cells #[nV (rootN n1)] 59))
          have hk := K.out.bel (HB.out.trans st)
          have HV5 := Lib.hid (HV.out.bel st)
          have HB5 := Lib.hid (HB.out.trans st)
          have hpw : (w5.alloc (.cells #[nV (rootN n1)] 59)).cell? ⟨w5.heap.size, 0, none⟩ = some (nV (rootN n1)) := cell_new _ _ _ 0
          have hg5 : g1 < w5.heap.size := Nat.lt_of_lt_of_le hlg hb5.size
          have HSZ : Hid (w5.heap.size < (w5.alloc (.cells #[nV (rootN n1)] 59)).heap.size) := by unfold Hid; rw [size_alloc']; omega
          obtain ⟨y0, y1, y2, y3⟩ := hk
          clear x0 x1 x2 x3 HV HB hb5 st
          go_wp2_with fail
          clear y0 y1 y2 y3
          generalize World.alloc _ _ = W6 at HV5 HB5 hpw HSZ ⊢
          generalize w5.heap.size = pw at hpw HSZ hg5 ⊢
          refine (nalong_fwd pw g1 L n0 n1 n2 1 n1 (n2) (n0) L (fS n0 n1 n2 L cs 1) (fun l => nline 8 l (rootN n1)) (fun W => W.cell? ⟨pw, 0, none⟩ = some (nV (rootN n1))) W W6 (HLEN.out 1)
            (by omega) (by simp) ⟨HS.out.b.1, HS.out.b.2.1⟩ ⟨HS.out.c.1, HS.out.c.2.1⟩ HS.out.b.1 HS.out.b.2.1 (by rw [← HS.out.p]; rw [Nat.mul_assoc n0, Nat.mul_comm n0]) hL (HLT.out 1) (fun l => nline_lt _ _ _) (fun l hl => by rw [nline_length (by rw [hl]; have := HS.out.b.2.1; omega) (by rw [hl]; exact HS.out.b.1), hl])
            (fun _ _ hb h => hb.cellv h) (fun _ _ _ h => cell_far h (by show pw ≠ g1; omega)) (fun _ q _ _ hq h => cell_far h (by have := HSZ.out; show pw ≠ q; omega)) hpw
            (fun W' b' ys h hl hp hc => fwd_any pw (rootN n1) b' 0 n1 n1 ys W' hl HS.out.b.2.2 HS.out.b.1 HS.out.b.2.1 (rootN_lt _) hp h hc) HV5.out HB5.out HLE.out).mono ?_
          rintro e1 w7 ⟨rfl, hv7, hb7, _⟩
          have HV7 : Hid (NArr w7 g1 L (fS n0 n1 n2 L cs 2)) := hv7
          have HB7 := Lib.hid hb7
          clear hv7 hb7 HV5 HB5
          go_wp2_with fail
          go_roundw
          case rel => exact ⟨2, by omega, rfl, HV7.out, HB7.out⟩
          case measure => simp [intOf]
        · obtain ⟨x0, x1, x2, x3⟩ := K.out.bel hbw
          have HV := Lib.hid hv
          have HB := Lib.hid hbw
          have hlg : g1 < wr.heap.size := hv.lt
          obtain ⟨wq, rfl⟩ : ∃ wq : World, wq = wr := ⟨_, rfl⟩
          clear hv hbw
          go_wp2_with fail
          refine (root_any n2 HS.out.c.1 HS.out.c.2.1 _).mono ?_
          rintro e w5 ⟨rfl, hb5⟩
          have st := hb5.trans ((Bel.refl w5).alloc (.cells #[nV (rootN n2)] 59))
          have hk := K.out.bel (HB.out.trans st)
          have HV5 := Lib.hid (HV.out.bel st)
          have HB5 := Lib.hid (HB.out.trans st)
          have hpw : (w5.alloc (.cells #[nV (rootN n2)] 59)).cell? ⟨w5.heap.size, 0, none⟩ = some (nV (rootN n2)) := cell_new _ _ _ 0
          have hg5 : g1 < w5.heap.size := Nat.lt_of_lt_of_le hlg hb5.size
          have HSZ : Hid (w5.heap.size < (w5.alloc (.cells #[nV (rootN n2)] 59)).heap.size) := by unfold Hid; rw [size_alloc']; omega
          obtain ⟨y0, y1, y2, y3⟩ := hk
          clear x0 x1 x2 x3 HV HB hb5 st
          go_wp2_with fail
          clear y0 y1 y2 y3
          generalize World.alloc _ _ = W6 at HV5 HB5 hpw HSZ ⊢
          generalize w5.heap.size = pw at hpw HSZ hg5 ⊢
          refine (nalong_fwd pw g1 L n0 n1 n2 2 n2 (1) (n0 * n1) L (fS n0 n1 n2 L cs 2) (fun l => nline 8 l (rootN n2)) (fun W => W.cell? ⟨pw, 0, none⟩ = some (nV (rootN n2))) W W6 (HLEN.out 2)
            (by omega) (by simp) ⟨HS.out.b.1, HS.out.b.2.1⟩ ⟨HS.out.c.1, HS.out.c.2.1⟩ HS.out.c.1 HS.out.c.2.1 (by rw [← HS.out.p]; rw [Nat.mul_one, Nat.mul_comm]) hL (HLT.out 2) (fun l => nline_lt _ _ _) (fun l hl => by rw [nline_length (by rw [hl]; have := HS.out.c.2.1; omega) (by rw [hl]; exact HS.out.c.1), hl])
            (fun _ _ hb h => hb.cellv h) (fun _ _ _ h => cell_far h (by show pw ≠ g1; omega)) (fun _ q _ _ hq h => cell_far h (by have := HSZ.out; show pw ≠ q; omega)) hpw
            (fun W' b' ys h hl hp hc => fwd_any pw (rootN n2) b' 0 n2 n2 ys W' hl HS.out.c.2.2 HS.out.c.1 HS.out.c.2.1 (rootN_lt _) hp h hc) HV5.out HB5.out HLE.out).mono ?_
          rintro e1 w7 ⟨rfl, hv7, hb7, _⟩
          have HV7 : Hid (NArr w7 g1 L (fS n0 n1 n2 L cs 3)) := hv7
          have HB7 := Lib.hid hb7
          clear hv7 hb7 HV5 HB5
          go_wp2_with fail
          go_roundw
          case rel => exact ⟨3, by omega, rfl, HV7.out, HB7.out⟩
          case measure => simp [intOf]
        · have HV := Lib.hid hv
          have HB := Lib.hid hbw
          clear hv hbw
          go_wp2_with fail
          go_ret
          have e3 := HLEN.out 3
          exact ⟨⟨g1, L, rfl, e3, HGE.out, HV.out⟩, HB1.out.trans HB.out⟩

end Go.Proofs.YtehiabiahipkhaaGreat

namespace Go.Proofs.YtehiabiahipkhaaGreat
open Go.RowKit
set_option linter.unusedVariables false
set_option linter.unusedSimpArgs false

theorem pequalIn_int (d : Nat) (x y : Int) (w : World) : (Op.equalIn (d + 1) 3 (.int .i64 x) (.int .i64 y)).run Tryz.prog w = .ok (x == y) w := by
  simp [Op.equalIn, run_underlying Tryz.underlying3]
theorem pequalIn_vec (d : Nat) (x0 x1 x2 y0 y1 y2 : Int) (w : World) :
    (Op.equalIn (d + 1 + 1) 23 (.agg #[.int .i64 x0, .int .i64 x1, .int .i64 x2]) (.agg #[.int .i64 y0, .int .i64 y1, .int .i64 y2])).run Tryz.prog w = .ok (x0 == y0 && x1 == y1 && x2 == y2) w := by
  have hs : (sizeOf 3).run Tryz.prog w = .ok 1 w := by kernel_rfl
  have p0 : ∀ a b c : Value, (part 3 #[a, b, c] 0).run Tryz.prog w = .ok a w := fun a b c => by kernel_rfl
  have p1 : ∀ a b c : Value, (part 3 #[a, b, c] 1).run Tryz.prog w = .ok b w := fun a b c => by kernel_rfl
  have p2 : ∀ a b c : Value, (part 3 #[a, b, c] 2).run Tryz.prog w = .ok c w := fun a b c => by kernel_rfl
  have e := pequalIn_int d
  rw [Op.equalIn]
  simp [run_underlying Tryz.underlying23, hs, Std.Legacy.Range.forIn_eq_forIn_range', List.range', p0, p1, p2, e]
  by_cases h0 : x0 = y0 <;> by_cases h1 : x1 = y1 <;> by_cases h2 : x2 = y2 <;> simp [h0, h1, h2]
@[go_sem] theorem pequalIn_vec_top (x0 x1 x2 y0 y1 y2 : Int) (w : World) :
    (Op.equalIn 10000 23 (.agg #[.int .i64 x0, .int .i64 x1, .int .i64 x2]) (.agg #[.int .i64 y0, .int .i64 y1, .int .i64 y2])).run Tryz.prog w = .ok (x0 == y0 && x1 == y1 && x2 == y2) w :=
  pequalIn_vec 9998 x0 x1 x2 y0 y1 y2 w

/-- Four cells that may be written. -/
def R4 (W : World) (p : Nat) : Prop := ∀ i, i < 4 → W.cell? ⟨p, i, none⟩ = some (cellD W ⟨p, i, none⟩) ∧ W.frozen? ⟨p, i, none⟩ = false
theorem R4.bel {W W' : World} {p : Nat} (h : R4 W p) (hb : Bel W W') : R4 W' p := fun i hi => by
  have hr := h i hi
  exact ⟨cellD_eq (hb.cellv hr.1), by rw [hb.frozen (World.block_lt_of_cell? _ _ hr.1)]; exact hr.2⟩
theorem r4_new (W : World) (a b c d : Value) (T : TypeId) : R4 (W.alloc (.cells #[a, b, c, d] T)) W.heap.size := fun i hi => by
  refine ⟨?_, frozen_new _ _ _ _⟩
  have : ∃ v, (W.alloc (.cells #[a, b, c, d] T)).cell? ⟨W.heap.size, i, none⟩ = some v := by
    rw [cell_new]
    rcases (by omega : i = 0 ∨ i = 1 ∨ i = 2 ∨ i = 3) with rfl | rfl | rfl | rfl <;> exact ⟨_, rfl⟩
  obtain ⟨v, hv⟩ := this
  exact cellD_eq hv

theorem cvar_set {W : World} {p : Nat} (h : R4 W p) (n0 n1 n2 : Int) (ao : Option Addr) (m c : Nat) :
    CVar ((((W.setCell ⟨p, 0, none⟩ (.int .i64 n0)).setCell ⟨p, 1, none⟩ (.int .i64 n1)).setCell ⟨p, 2, none⟩ (.int .i64 n2)).setCell ⟨p, 3, none⟩ (.slice ao m c)) p n0 n1 n2 ao m c := by
  obtain ⟨h0, _⟩ := h 0 (by omega)
  obtain ⟨h1, _⟩ := h 1 (by omega)
  obtain ⟨h2, _⟩ := h 2 (by omega)
  obtain ⟨h3, _⟩ := h 3 (by omega)
  refine ⟨?_, ?_, ?_, ?_⟩ <;> go_simp

/-- A residue as a whole number of least size. -/
def sgnN (v : Nat) : Int := if 9223372034707292160 < v then -((18446744069414584321 - v : Nat) : Int) else v
/-- The products, place by place. -/
def uS0 (n0 n1 n2 L : Nat) (ps bs : List Int) : List Nat := (List.range L).map fun i => mulP ((fS3 n0 n1 n2 L ps).getD i 0) ((fS3 n0 n1 n2 L bs).getD i 0)
def uS1 (n0 n1 n2 L : Nat) (ps bs : List Int) : List Nat := alongA unlineN n0 (n1 * n2) (uS0 n0 n1 n2 L ps bs) L
def uS2 (n0 n1 n2 L : Nat) (ps bs : List Int) : List Nat := alongA unlineN n1 n2 (uS1 n0 n1 n2 L ps bs) L
def uS3 (n0 n1 n2 L : Nat) (ps bs : List Int) : List Nat := alongA unlineN n2 1 (uS2 n0 n1 n2 L ps bs) L
def uS (n0 n1 n2 L : Nat) (ps bs : List Int) (e : Nat) : List Nat := if e = 0 then uS0 n0 n1 n2 L ps bs else if e = 1 then uS1 n0 n1 n2 L ps bs else if e = 2 then uS2 n0 n1 n2 L ps bs else uS3 n0 n1 n2 L ps bs
/-- ntt.Fold. -/
def foldN (n0 n1 n2 L : Nat) (ps bs : List Int) : List Int := (uS3 n0 n1 n2 L ps bs).map sgnN
theorem uS0_length (n0 n1 n2 L : Nat) (ps bs : List Int) : (uS0 n0 n1 n2 L ps bs).length = L := by simp [uS0]
theorem uS_length (n0 n1 n2 L : Nat) (ps bs : List Int) (e : Nat) : (uS n0 n1 n2 L ps bs e).length = L := by
  unfold uS uS3 uS2 uS1
  split
  · exact uS0_length _ _ _ _ _ _
  · split
    · rw [alongA_length, uS0_length]
    · split
      · rw [alongA_length, alongA_length, uS0_length]
      · rw [alongA_length, alongA_length, alongA_length, uS0_length]
theorem foldN_length (n0 n1 n2 L : Nat) (ps bs : List Int) : (foldN n0 n1 n2 L ps bs).length = L := by
  have := uS_length n0 n1 n2 L ps bs 3
  unfold foldN; rw [List.length_map]; exact this
theorem uS_lt (n0 n1 n2 L : Nat) (ps bs : List Int) (e : Nat) : ∀ x ∈ uS n0 n1 n2 L ps bs e, x < pr := by
  have h0 : ∀ x ∈ uS0 n0 n1 n2 L ps bs, x < pr := fun x hx => by
    simp only [uS0, List.mem_map, List.mem_range] at hx
    obtain ⟨i, _, rfl⟩ := hx
    exact mulP_lt _ _
  have h1 : ∀ x ∈ uS1 n0 n1 n2 L ps bs, x < pr := alongA_lt h0 (fun _ => unlineN_lt _) _
  have h2 : ∀ x ∈ uS2 n0 n1 n2 L ps bs, x < pr := alongA_lt h1 (fun _ => unlineN_lt _) _
  have h3 : ∀ x ∈ uS3 n0 n1 n2 L ps bs, x < pr := alongA_lt h2 (fun _ => unlineN_lt _) _
  unfold uS
  split
  · exact h0
  · split
    · exact h1
    · split
      · exact h2
      · exact h3

theorem counts_ok (b off cap n0 n1 n2 L : Nat) (cs : List Int) (w : World) (hs : S3 n0 n1 n2 L) (hl : cs.length = L) (hw : Within cs)
    (hx : ∀ i, i < L → w.cell? ⟨b, off + i, none⟩ = some (iV (cs.getD i 0))) :
    Calls Tryz.prog 48 #[countV n0 n1 n2 (some ⟨b, off, none⟩) L cap] w fun e w' => e = .returned (.int .i64 0) ∧ Bel w w' :=
  (counts_any b off cap n0 n1 n2 L cs w hs hl hx).mono fun e w' h => by
    obtain ⟨⟨z, rfl, hz⟩, hb⟩ := h
    rcases hz with ⟨rfl, _⟩ | ⟨_, h⟩
    · exact ⟨rfl, hb⟩
    · exact absurd hw h
theorem counts_over (b off cap n0 n1 n2 L : Nat) (cs : List Int) (w : World) (hs : S3 n0 n1 n2 L) (hl : cs.length = L) (hw : ¬ Within cs)
    (hx : ∀ i, i < L → w.cell? ⟨b, off + i, none⟩ = some (iV (cs.getD i 0))) :
    Calls Tryz.prog 48 #[countV n0 n1 n2 (some ⟨b, off, none⟩) L cap] w fun e w' => e = .returned (.int .i64 4) ∧ Bel w w' :=
  (counts_any b off cap n0 n1 n2 L cs w hs hl hx).mono fun e w' h => by
    obtain ⟨⟨z, rfl, hz⟩, hb⟩ := h
    rcases hz with ⟨_, h⟩ | ⟨rfl, _⟩
    · exact absurd h hw
    · exact ⟨rfl, hb⟩

theorem Within.abs {cs : List Int} (h : Within cs) : ∀ z ∈ cs, z.natAbs ≤ 1048576 := by
  intro z hz
  obtain ⟨i, hi, rfl⟩ := List.mem_iff_getElem.1 hz
  have := h i hi
  rw [List.getD_eq_getElem?_getD, List.getElem?_eq_getElem hi, Option.getD_some] at this
  omega

set_option maxHeartbeats 4000000 in
set_option maxRecDepth 100000 in
theorem fold_over (b1 o1 c1 b2 o2 c2 n0 n1 n2 L : Nat) (ps bs : List Int) (w : World) (hs : S3 n0 n1 n2 L) (hl1 : ps.length = L) (hl2 : bs.length = L) (hw1 : ¬ Within ps) (hw2 : ¬ Within bs)
    (hx1 : ∀ i, i < L → w.cell? ⟨b1, o1 + i, none⟩ = some (iV (ps.getD i 0))) (hx2 : ∀ i, i < L → w.cell? ⟨b2, o2 + i, none⟩ = some (iV (bs.getD i 0))) :
    Calls Tryz.prog 32 #[countV n0 n1 n2 (some ⟨b1, o1, none⟩) L c1, countV n0 n1 n2 (some ⟨b2, o2, none⟩) L c2] w fun e w' =>
      e = .returned (.tuple #[countV 0 0 0 none 0 0, .int .i64 4]) ∧ Bel w w' := by
  have HC1 := Lib.hid (fun (W : World) (h : Bel w W) => counts_over b1 o1 c1 n0 n1 n2 L ps W hs hl1 hw1 (fun i hi => h.cellv (hx1 i hi)))
  have HC2 := Lib.hid (fun (W : World) (h : Bel w W) => counts_over b2 o2 c2 n0 n1 n2 L bs W hs hl2 hw2 (fun i hi => h.cellv (hx2 i hi)))
  clear hs hl1 hl2 hw1 hw2 hx1 hx2
  go_enter Tryz.func32, Tryz.ntmps32
  go_wp2_with fail
  have K2 : Hid (CVar (((w.alloc (.cells #[.int .i64 n0, .int .i64 n1, .int .i64 n2, .slice (some ⟨b1, o1, none⟩) L c1] 26)).alloc (.cells #[.int .i64 n0, .int .i64 n1, .int .i64 n2, .slice (some ⟨b2, o2, none⟩) L c2] 26)).alloc (.cells #[.int .i64 0, .int .i64 0, .int .i64 0, .slice none 0 0] 26)) w.heap.size n0 n1 n2 (some ⟨b1, o1, none⟩) L c1) := ((cvar_new w _ _ _ _ _ _ _).bel ((Bel.refl _).alloc _)).bel ((Bel.refl _).alloc _)
  have hz1 : (w.alloc (.cells #[.int .i64 n0, .int .i64 n1, .int .i64 n2, .slice (some ⟨b1, o1, none⟩) L c1] 26)).heap.size = w.heap.size + 1 := size_alloc' _ _
  have K3 : Hid (CVar (((w.alloc (.cells #[.int .i64 n0, .int .i64 n1, .int .i64 n2, .slice (some ⟨b1, o1, none⟩) L c1] 26)).alloc (.cells #[.int .i64 n0, .int .i64 n1, .int .i64 n2, .slice (some ⟨b2, o2, none⟩) L c2] 26)).alloc (.cells #[.int .i64 0, .int .i64 0, .int .i64 0, .slice none 0 0] 26)) (w.heap.size + 1) n0 n1 n2 (some ⟨b2, o2, none⟩) L c2) := by
    rw [← hz1]; exact (cvar_new (w.alloc (.cells #[.int .i64 n0, .int .i64 n1, .int .i64 n2, .slice (some ⟨b1, o1, none⟩) L c1] 26)) _ _ _ _ _ _ _).bel ((Bel.refl _).alloc _)
  have hz2 : ((w.alloc (.cells #[.int .i64 n0, .int .i64 n1, .int .i64 n2, .slice (some ⟨b1, o1, none⟩) L c1] 26)).alloc (.cells #[.int .i64 n0, .int .i64 n1, .int .i64 n2, .slice (some ⟨b2, o2, none⟩) L c2] 26)).heap.size = w.heap.size + 1 + 1 := by rw [size_alloc', hz1]
  have K4 : Hid (R4 (((w.alloc (.cells #[.int .i64 n0, .int .i64 n1, .int .i64 n2, .slice (some ⟨b1, o1, none⟩) L c1] 26)).alloc (.cells #[.int .i64 n0, .int .i64 n1, .int .i64 n2, .slice (some ⟨b2, o2, none⟩) L c2] 26)).alloc (.cells #[.int .i64 0, .int .i64 0, .int .i64 0, .slice none 0 0] 26)) (w.heap.size + 1 + 1)) := by
    rw [← hz2]; exact r4_new ((w.alloc (.cells #[.int .i64 n0, .int .i64 n1, .int .i64 n2, .slice (some ⟨b1, o1, none⟩) L c1] 26)).alloc (.cells #[.int .i64 n0, .int .i64 n1, .int .i64 n2, .slice (some ⟨b2, o2, none⟩) L c2] 26)) _ _ _ _ _
  have HB : Hid (Bel w (((w.alloc (.cells #[.int .i64 n0, .int .i64 n1, .int .i64 n2, .slice (some ⟨b1, o1, none⟩) L c1] 26)).alloc (.cells #[.int .i64 n0, .int .i64 n1, .int .i64 n2, .slice (some ⟨b2, o2, none⟩) L c2] 26)).alloc (.cells #[.int .i64 0, .int .i64 0, .int .i64 0, .slice none 0 0] 26))) := (((Bel.refl w).alloc _).alloc _).alloc _
  clear hz1 hz2
  generalize World.alloc _ _ = W at K2 K3 K4 HB ⊢
  generalize hp2 : w.heap.size = p2 at K2 K3 K4 ⊢
  have HP4 : Hid (w.heap.size ≤ p2 + 1 + 1) := by unfold Hid; omega
  have HP3 : Hid (p2 < p2 + 1 ∧ p2 + 1 < p2 + 1 + 1) := by unfold Hid; omega
  clear hp2
  generalize p2 + 1 = p3 at K3 K4 HP4 HP3 ⊢
  generalize p3 + 1 = p4 at K4 HP4 HP3 ⊢
  have hb0 : Bel W W.drew := (Bel.refl W).drew
  go_region_held3 (fun w' => ((w'.cell? ⟨p2, 0, none⟩ = some (.int .i64 n0) ∧ w'.cell? ⟨p2, 1, none⟩ = some (.int .i64 n1) ∧ w'.cell? ⟨p2, 2, none⟩ = some (.int .i64 n2) ∧ w'.cell? ⟨p2, 3, none⟩ = some (.slice (some ⟨b1, o1, none⟩) L c1)) ∧ w'.cell? ⟨p3, 0, none⟩ = some (.int .i64 n0) ∧ w'.cell? ⟨p3, 1, none⟩ = some (.int .i64 n1) ∧ w'.cell? ⟨p3, 2, none⟩ = some (.int .i64 n2) ∧ w'.cell? ⟨p3, 3, none⟩ = some (.slice (some ⟨b2, o2, none⟩) L c2))) (exact ⟨K2.out.bel (by assumption), K3.out.bel (by assumption)⟩) (first
    | (go_at_call 48; (with_reducible refine (callsFrom (HC1.out _ (HB.out.trans (by assumption))) (by assumption)).mono ?_); rintro e w' ⟨rfl, hb⟩)
    | (go_at_call 48; (with_reducible refine (callsFrom (HC2.out _ (HB.out.trans (by assumption))) (by assumption)).mono ?_); rintro e w' ⟨rfl, hb⟩))
  have hr := K4.out.bel hb
  obtain ⟨g0, f0⟩ := hr 0 (by omega)
  obtain ⟨g1, f1⟩ := hr 1 (by omega)
  obtain ⟨g2, f2⟩ := hr 2 (by omega)
  obtain ⟨g3, f3⟩ := hr 3 (by omega)
  have HBB := Lib.hid (HB.out.trans hb)
  have HBW := Lib.hid hb
  clear hr hb
  go_wp2_with fail
  have HSET : Hid (Bel w ((((w'.setCell ⟨p4, 0, none⟩ (.int .i64 0)).setCell ⟨p4, 1, none⟩ (.int .i64 0)).setCell ⟨p4, 2, none⟩ (.int .i64 0)).setCell ⟨p4, 3, none⟩ (.slice none 0 0))) :=
    (((HBB.out.setCell (by have := HP4.out; have := HP3.out; show w.heap.size ≤ p4; omega) _).setCell (by have := HP4.out; have := HP3.out; show w.heap.size ≤ p4; omega) _).setCell (by have := HP4.out; have := HP3.out; show w.heap.size ≤ p4; omega) _).setCell (by have := HP4.out; have := HP3.out; show w.heap.size ≤ p4; omega) _
  obtain ⟨r0, r1, r2, r3⟩ := cvar_set (K4.out.bel HBW.out) 0 0 0 none 0 0
  refine bodyPost_ret (v := .tuple #[countV 0 0 0 none 0 0, .int .i64 4]) (by simp [results, Tryz.results32, go_sem, r0, r1, r2, r3]) rfl ⟨rfl, HSET.out⟩

end Go.Proofs.YtehiabiahipkhaaGreat
