/-
  The walks of the small functions: cplx.Mul, cplx.Conj, fft.divides.
  The walks of the turns: turn.cosines, turn.cosine, turn.Of, fft.there, fft.back.
  The walks of cplx.Sum and fft.parted.
  What the transforms make of lists, as functions: nothing where a NaN would be.
-/
import Derived.Test.YtehiabiahipkhaaGreatRows
import Derived.Test.YtehiabiahipkhaaGreatA1
import Derived.WalkKit
import Derived.Laws.CopyOwn
import Derived.WalkSpells
import Derived.WalkLawsBesides
import Derived.Great.Walk
import Derived.Lib.Hide
namespace Go.Proofs.YtehiabiahipkhaaGreat
open Go.RowKit
set_option linter.unusedVariables false
set_option linter.unusedSimpArgs false

theorem mul_any (a b r : C) (w : World) (h : cMul a b = some r) :
    Calls Tryz.prog 98 #[cVal a, cVal b] w fun e w' => e = .returned (cVal r) ∧ w = w' := by
  unfold cMul fMul fSub fAdd at h
  cases h1 : floatBits .mul .f64 a.1 b.1 with
  | none => simp [h1] at h
  | some ac =>
  cases h2 : floatBits .mul .f64 a.2 b.2 with
  | none => simp [h1, h2] at h
  | some bd =>
  cases h3 : floatBits .sub .f64 ac bd with
  | none => simp [h1, h2, h3] at h
  | some x =>
  cases h4 : floatBits .mul .f64 a.1 b.2 with
  | none => simp [h1, h2, h4] at h
  | some ad =>
  cases h5 : floatBits .mul .f64 a.2 b.1 with
  | none => simp [h1, h2, h4, h5] at h
  | some bc =>
  cases h6 : floatBits .add .f64 ad bc with
  | none => simp [h1, h2, h4, h5, h6] at h
  | some y =>
  simp [h1, h2, h3, h4, h5, h6] at h
  subst h
  obtain ⟨a1, a2⟩ := a
  obtain ⟨b1, b2⟩ := b
  simp only [cVal] at *
  have o1 := fun t w => run_float_arith (P := Tryz.prog) w .mul t .f64 _ _ _ h1
  have o2 := fun t w => run_float_arith (P := Tryz.prog) w .mul t .f64 _ _ _ h2
  have o3 := fun t w => run_float_arith (P := Tryz.prog) w .sub t .f64 _ _ _ h3
  have o4 := fun t w => run_float_arith (P := Tryz.prog) w .mul t .f64 _ _ _ h4
  have o5 := fun t w => run_float_arith (P := Tryz.prog) w .mul t .f64 _ _ _ h5
  have o6 := fun t w => run_float_arith (P := Tryz.prog) w .add t .f64 _ _ _ h6
  clear h1 h2 h3 h4 h5 h6
  go_enter Tryz.func98, Tryz.ntmps98
  go_wp2
  go_ret
  exact ⟨rfl, rfl⟩

theorem conj_any (a : C) (w : World) :
    Calls Tryz.prog 101 #[cVal a] w fun e w' => e = .returned (cVal (a.1, fNeg a.2)) ∧ w = w' := by
  obtain ⟨a1, a2⟩ := a
  simp only [cVal]
  go_enter Tryz.func101, Tryz.ntmps101
  go_wp2
  go_ret
  exact ⟨rfl, rfl⟩

theorem divides_any (n : Int) (w : World) (h0 : -9223372036854775808 ≤ n) (h1 : n ≤ 9223372036854775807) :
    Calls Tryz.prog 97 #[.int .i64 n] w fun e w' => e = .returned (.bool (decide (1 ≤ n ∧ n ≤ 192 ∧ 192 % n = 0))) ∧ w = w' := by
  by_cases a1 : 1 ≤ n
  · by_cases a2 : n ≤ 192
    · go_enter Tryz.func97, Tryz.ntmps97
      go_wp2
      go_ret
      exact ⟨by simp [a1, a2]; rfl, rfl⟩
    · go_enter Tryz.func97, Tryz.ntmps97
      go_wp2
      go_ret
      exact ⟨by simp; omega, rfl⟩
  · go_enter Tryz.func97, Tryz.ntmps97
    go_wp2
    go_ret
    exact ⟨by simp; omega, rfl⟩

end Go.Proofs.YtehiabiahipkhaaGreat

namespace Go.Proofs.YtehiabiahipkhaaGreat
open Go.RowKit
set_option linter.unusedVariables false
set_option linter.unusedSimpArgs false

def cosArr : Array Value := (cosList.map (Value.int .u64)).toArray
def zero48 : Array Value := (List.replicate 48 (Value.int .u64 0)).toArray

set_option maxRecDepth 100000 in
theorem cosines_any (w : World) :
    Calls Tryz.prog 125 #[] w fun e w' => e = .returned (.agg cosArr) ∧ Bel w w' := by
  refine calls_of_wp Tryz.func125 rfl ?_
  refine Great.wp_anyFrame 2 (by kernel_rfl) rfl fun a0 hs0 hd0 => ?_
  apply wp_seq_k; intro K0 hK0
  apply wp_region_lit
  refine Great.wpList_allocTo rfl (some 0) rfl (.pointer (some ⟨w.heap.size, 0, none⟩)) (.cells zero48 169) (by as_aux_lemma => kernel_rfl) ?_
  apply wpList_nil
  refine hK0 _ _ ?_
  clear hK0 K0
  apply wp_seq_k; intro K1 hK1
  apply wp_region_lit
  refine wpList_buildFlatArrTo rfl 169 59 48 _ rfl .u64 cosList (some 1) rfl (by as_aux_lemma => kernel_rfl) (by as_aux_lemma => kernel_rfl) (by as_aux_lemma => kernel_rfl) (by as_aux_lemma => kernel_rfl) ?_
  refine wpList_store_rowTo rfl 169 _ _ rfl rfl w.heap.size cosArr (by rw [Act.eval_put_ne _ _ _ _ (by decide), Act.eval_put_same _ 0 _ (by omega)]) (Act.eval_put_same _ 1 _ (by simp only [Act.size_put, hs0]; omega)) 169 zero48 (heap_alloc_new _ _) (by as_aux_lemma => kernel_rfl) (by as_aux_lemma => kernel_rfl) (by as_aux_lemma => kernel_rfl) ?_
  apply wpList_nil
  refine hK1 _ _ ?_
  clear hK1 K1
  refine wp_ret ?_
  refine bodyPost_ret (v := .agg cosArr) ?_ (by simp only [Act.defers_put', hd0]) ⟨rfl, ?_⟩
  · refine results_cell_row (p := 0) (ty := 169) rfl _ _ w.heap.size 169 cosArr (0, 0) _ ?_ (setRow_heap _ _ zero48 _ _ _ (heap_alloc_new _ _)) Tryz.underlying169 rfl (by as_aux_lemma => kernel_rfl)
    have := Act.eval_put_ne (a0.put (some 0) (.pointer (some ⟨w.heap.size, 0, none⟩))) 1 0 (.agg (List.map (Value.int IntKind.u64) cosList).toArray) (by decide)
    rw [Act.eval_put_same _ 0 _ (by omega)] at this
    exact this
  · exact ((Bel.refl _).alloc _).setRow (Nat.le_refl _) _

theorem index_cos (i : Int) (h0 : 0 ≤ i) (h1 : i < 48) (w : World) :
    (Instr.index 169 (.agg cosArr) (.int .i64 i)).run Tryz.prog w = .ok (.int .u64 (cosList.getD i.toNat 0)) w := by
  have hu := Tryz.underlying169
  have hs : (sizeOf 59).run Tryz.prog w = .ok 1 w := by as_aux_lemma => kernel_rfl
  have hl : cosArr[i.toNat]? = some (.int .u64 (cosList.getD i.toNat 0)) := by
    have : cosList.length = 48 := rfl
    unfold cosArr
    simp only [List.getElem?_toArray, List.getElem?_map, List.getD_eq_getElem?_getD]
    rw [List.getElem?_eq_getElem (by omega)]
    rfl
  have hp : (part 59 cosArr i.toNat).run Tryz.prog w = .ok (.int .u64 (cosList.getD i.toNat 0)) w :=
    run_part_plain _ (by as_aux_lemma => kernel_rfl) hl
  have hi : 0 ≤ i ∧ i < 48 := ⟨h0, h1⟩
  simp [Instr.index, asIntOf, run_underlying hu, hi, hs, hp]

@[go_sem] theorem run_frombits (n : Int) (w : World) :
    (callFunc 124 #[.int .u64 n]).run Tryz.prog w = .ok (.value (.float .f64 n.toNat)) w := by
  rw [run_callFunc_extern (f := 124) (fn := Tryz.f124) (e := Extern.MathFloatBits.float64frombits) Tryz.func124 (by kernel_rfl) (by kernel_rfl) (by kernel_rfl) (by kernel_rfl)]
  rfl

theorem ret_f64 {a b : Nat} (h : a = b) : Ending.returned (.float .f64 a) = .returned (.float .f64 b) := by rw [h]

theorem cosine_any (j : Nat) (hj : j < 400) (w : World) :
    Calls Tryz.prog 122 #[.int .i64 j] w fun e w' => e = .returned (.float .f64 (cosB (j % 192))) ∧ Bel w w' := by
  by_cases a : 96 < j % 192
  · by_cases b : 192 - j % 192 < 48
    · have hi := fun w => index_cos (192 - (j : Int) % 192) (by omega) (by omega) w
      go_enter Tryz.func122, Tryz.ntmps122
      go_wp2_with (go_at_call 125; refine (cosines_any _).mono ?_; rintro e w' ⟨rfl, hb⟩)
      go_ret
      refine ⟨ret_f64 ?_, hb⟩
      simp [cosB, a, b]
    · by_cases c : 192 - j % 192 = 48
      · go_enter Tryz.func122, Tryz.ntmps122
        go_wp2_with (go_at_call 125; refine (cosines_any _).mono ?_; rintro e w' ⟨rfl, hb⟩)
        go_ret
        refine ⟨ret_f64 ?_, Bel.refl _⟩
        simp [cosB, a, c]
      · have hi := fun w => index_cos (96 - (192 - (j : Int) % 192)) (by omega) (by omega) w
        go_enter Tryz.func122, Tryz.ntmps122
        go_wp2_with (go_at_call 125; refine (cosines_any _).mono ?_; rintro e w' ⟨rfl, hb⟩)
        go_ret
        refine ⟨ret_f64 ?_, hb⟩
        simp [cosB, a, b, show 48 < 192 - j % 192 by omega]
  · by_cases b : j % 192 < 48
    · have hi := fun w => index_cos ((j : Int) % 192) (by omega) (by omega) w
      go_enter Tryz.func122, Tryz.ntmps122
      go_wp2_with (go_at_call 125; refine (cosines_any _).mono ?_; rintro e w' ⟨rfl, hb⟩)
      go_ret
      refine ⟨ret_f64 ?_, hb⟩
      simp [cosB, a, b]
    · by_cases c : j % 192 = 48
      · go_enter Tryz.func122, Tryz.ntmps122
        go_wp2_with (go_at_call 125; refine (cosines_any _).mono ?_; rintro e w' ⟨rfl, hb⟩)
        go_ret
        refine ⟨ret_f64 ?_, Bel.refl _⟩
        simp [cosB, c]
      · have hi := fun w => index_cos (96 - (j : Int) % 192) (by omega) (by omega) w
        go_enter Tryz.func122, Tryz.ntmps122
        go_wp2_with (go_at_call 125; refine (cosines_any _).mono ?_; rintro e w' ⟨rfl, hb⟩)
        go_ret
        refine ⟨ret_f64 ?_, hb⟩
        simp [cosB, a, b, show 48 < j % 192 by omega]

theorem cosine_int (x : Int) (h0 : 0 ≤ x) (h1 : x < 400) (w : World) :
    Calls Tryz.prog 122 #[.int .i64 x] w fun e w' => e = .returned (.float .f64 (cosB (x.toNat % 192))) ∧ Bel w w' := by
  have h := cosine_any x.toNat (by omega) w
  rw [Int.toNat_of_nonneg h0] at h
  exact h

theorem tmod_turn (j : Int) (m : Nat) : j.tmod m % m = j % m := by
  have h : j.tmod m = j - m * (j.tdiv m) := by
    have := Int.mul_tdiv_add_tmod j m; omega
  rw [h, Int.sub_mul_emod_self_left]

theorem turn_lt (r : Int) (m : Nat) (h2 : 192 % m = 0) (hr : r < m) : r * ((192 : Int) / m) < 192 := by
  have hq : ((192 / m : Nat) : Int) = (192 : Int) / m := Int.natCast_ediv 192 m
  have hm : m * (192 / m) = 192 := by have := Nat.div_add_mod 192 m; omega
  have hp : 0 < 192 / m := by rcases Nat.eq_zero_or_pos (192 / m) with h | h; · rw [h] at hm; omega
                              · exact h
  rw [← hq]
  have h1 : r * ((192 / m : Nat) : Int) ≤ ((m : Int) - 1) * ((192 / m : Nat) : Int) := Int.mul_le_mul_of_nonneg_right (by omega) (by omega)
  have h3 : (m : Int) * ((192 / m : Nat) : Int) = 192 := by rw [← Int.natCast_mul, hm]; rfl
  rw [Int.sub_mul] at h1
  omega

theorem turn_arg (j : Int) (m : Nat) : (j % m * ((192 : Int) / m)).toNat = (j % m).toNat * (192 / m) := by
  have hq : ((192 / m : Nat) : Int) = (192 : Int) / m := Int.natCast_ediv 192 m
  by_cases h : m = 0
  · subst h; simp
  · have : 0 ≤ j % m := Int.emod_nonneg _ (by omega)
    rw [← hq, Int.toNat_mul this (Int.natCast_nonneg _), Int.toNat_natCast]

theorem of_end (x : Int) (y : Nat) (h0 : 0 ≤ x) (h : x.toNat = y) :
    Value.complex .f64 (cosB (y % 192)) (cosB ((x + 144).toNat % 192)) = cVal (tw y) := by
  have : (x + 144).toNat = y + 144 := by omega
  rw [this]; rfl

/-- turn.Of at right arguments. -/
theorem of_any (j : Int) (m : Nat) (hj0 : -1000000000 ≤ j) (hj1 : j ≤ 1000000000) (h0 : 1 ≤ m) (h1 : m ≤ 192) (h2 : 192 % m = 0) (w : World) :
    Calls Tryz.prog 116 #[.int .i64 j, .int .i64 m] w fun e w' => e = .returned (.tuple #[cVal (tw ((j % m).toNat * (192 / m))), .int .i64 0]) ∧ Bel w w' := by
  have h3 : (192 : Int) % m = 0 := by have h := congrArg (fun n : Nat => (n : Int)) h2; simpa using h
  have hd : ((192 : Int) % m == 0) = true := by simp [h3]
  have hd' : ((192 : Int) % m != 0) = false := by simp [h3]
  clear h3
  have b1 : (-(m : Int)) < j.tmod m := by have := Int.lt_tmod_of_pos j (b := m) (by omega); omega
  have b2 : j.tmod m < m := Int.tmod_lt_of_pos j (by omega)
  have b3 : (192 : Int) / m ≤ 192 := by
    have := Int.ediv_le_self (a := 192) m (by omega); omega
  have b4 : (0 : Int) ≤ 192 / m := Int.ediv_nonneg (by omega) (by omega)
  have b5 : (0 : Int) ≤ (j.tmod m + m) % m := Int.emod_nonneg _ (by omega)
  have b6 : (j.tmod m + m) % m < m := Int.emod_lt_of_pos _ (by omega)
  have b7 : j.tmod m % m * (192 / m) < 192 := turn_lt _ _ h2 (Int.emod_lt_of_pos _ (by omega))
  have b8 : (0 : Int) ≤ j.tmod m % m * (192 / m) := Int.mul_nonneg (Int.emod_nonneg _ (by omega)) b4
  have HA : Hid ((j.tmod m % m * ((192 : Int) / m)).toNat = (j % m).toNat * (192 / m)) := by rw [tmod_turn]; exact turn_arg j m
  have hb0 : Bel w w.drew := (Bel.refl w).drew
  go_enter Tryz.func116, Tryz.ntmps116
  go_wp2
  go_region
  go_wp2_with (go_at_call 122; refine (callsFrom (cosine_int _ ?_ ?_ _) (by assumption)).mono ?_; (omega); (omega); rintro e w' ⟨rfl, hb⟩)
  go_ret2
  refine ⟨?_, by assumption⟩
  show Ending.returned (.tuple #[Value.complex .f64 _ _, .int .i64 0]) = _
  rw [HA.out, of_end _ _ b8 HA.out]

/-- fft.there. -/
theorem there_any (j : Int) (m : Nat) (hj0 : -1000000000 ≤ j) (hj1 : j ≤ 1000000000) (h0 : 1 ≤ m) (h1 : m ≤ 192) (h2 : 192 % m = 0) (w : World) :
    Calls Tryz.prog 102 #[.int .i64 j, .int .i64 m] w fun e w' => e = .returned (cVal (wy false j m)) ∧ Bel w w' := by
  go_enter Tryz.func102, Tryz.ntmps102
  go_wp2_with (go_at_call 116; refine (of_any _ _ hj0 hj1 h0 h1 h2 _).mono ?_; rintro e w' ⟨rfl, hb⟩)
  go_ret
  exact ⟨rfl, hb⟩

theorem back_any (j : Int) (m : Nat) (hj0 : -1000000000 ≤ j) (hj1 : j ≤ 1000000000) (h0 : 1 ≤ m) (h1 : m ≤ 192) (h2 : 192 % m = 0) (w : World) :
    Calls Tryz.prog 91 #[.int .i64 j, .int .i64 m] w fun e w' => e = .returned (cVal (wy true j m)) ∧ Bel w w' := by
  go_enter Tryz.func91, Tryz.ntmps91
  go_wp2_with (first | (go_at_call 102; refine (there_any _ _ hj0 hj1 h0 h1 h2 _).mono ?_; rintro e w' ⟨rfl, hb⟩) | (go_at_call 101; refine (conj_any _ _).mono ?_; rintro e w' ⟨rfl, rfl⟩))
  go_ret
  exact ⟨rfl, hb⟩

end Go.Proofs.YtehiabiahipkhaaGreat

namespace Go.Proofs.YtehiabiahipkhaaGreat
open Go.RowKit
set_option linter.unusedVariables false
set_option linter.unusedSimpArgs false

theorem sum_any (b off n cap : Nat) (xs : List C) (r : C) (w : World) (hl : n ≤ 1000000) (h : csumN xs n = some r)
    (hx : ∀ i, i < n → w.cell? ⟨b, off + i, none⟩ = some (cVal (xs.getD i (0, 0)))) :
    Calls Tryz.prog 99 #[.slice (some ⟨b, off, none⟩) n cap] w fun e w' => e = .returned (cVal r) ∧ w = w' := by
  have H : Hid (csumN xs n = some r) := h
  have HX : Hid (∀ i, i < n → w.cell? ⟨b, off + i, none⟩ = some (cVal (xs.getD i (0, 0)))) := hx
  clear h hx
  go_enter Tryz.func99, Tryz.ntmps99
  go_wp2
  go_loop [3, 8] (fun s i => ∃ k : Nat, k ≤ n ∧ i = .int .i64 k ∧ ∃ c : C, csumN xs k = some c ∧ s = cVal c) (fun _ i => n - (intOf i).toNat)
  case atStart => exact ⟨0, Nat.zero_le _, rfl, (0, 0), rfl, rfl⟩
  case round =>
    obtain ⟨k, hk, rfl, c, hc, rfl⟩ := hrel
    by_cases hlt : k < n
    · obtain ⟨c', hc', ha⟩ := csumN_step H.out k hlt hc
      have HC : Hid (csumN xs (k + 1) = some c') := hc'
      clear hc' hc
      have hcell := HX.out k hlt
      have o1 := fun t w => run_complex_sum (P := Tryz.prog) w .add (Or.inl rfl) t .f64 _ _ _ _ _ _ ha
      clear ha
      generalize xs.getD k (0, 0) = x at hcell o1
      simp only [cVal] at hcell ⊢
      go_wp2
      go_round
      case rel => exact ⟨k + 1, by omega, by go_num, c', HC.out, rfl⟩
      case measure => simp [intOf]; omega
    · have : k = n := by omega
      subst this
      have : c = r := by have := H.out; rw [hc] at this; exact Option.some.inj this
      subst this
      clear hc
      go_wp2
      go_ret
      exact ⟨rfl, rfl⟩

theorem info_c : (Tryz.prog.info? 72).map (fun i => (i.zero, i.size, i.bytes)) = some (some (.complex .f64 0 0), 1, 16) := by kernel_rfl

set_option maxRecDepth 100000 in
set_option maxHeartbeats 400000 in
theorem parted_any (b off cap f k : Nat) (xs : List C) (w : World) (hf : f ≤ 1) (hl : xs.length ≤ 1000000) (hk : xs.length = 2 * k)
    (hx : ∀ i, i < xs.length → w.cell? ⟨b, off + i, none⟩ = some (cVal (xs.getD i (0, 0)))) :
    Calls Tryz.prog 100 #[.slice (some ⟨b, off, none⟩) xs.length cap, .int .i64 f] w fun e w' =>
      ∃ v, e = .returned v ∧ w'.ownsRow w.heap.size 72 1 v k ((partN xs f k).map cVal) ∧ Bel w w' := by
  obtain ⟨i0, hi, hz0, hz1, hz2⟩ := info_parts info_c
  obtain ⟨n, hn⟩ : ∃ n, n = xs.length := ⟨_, rfl⟩
  have HK : Hid (n = 2 * k) := by unfold Hid; omega
  have hnk : n ≤ 2 * k := by omega
  have hnk' : 2 * k ≤ n := by omega
  rw [← hn] at hl hx ⊢
  clear hn hk
  have HX : Hid (∀ i, i < n → w.cell? ⟨b, off + i, none⟩ = some (cVal (xs.getD i (0, 0)))) := hx
  clear hx
  go_enter Tryz.func100, Tryz.ntmps100
  go_wp2
  go_loopw [1, 5] (fun i v wr => ∃ m : Nat, m ≤ k ∧ i = .int .i64 ((f + 2 * m : Nat) : Int) ∧ wr.ownsRow w.heap.size 72 1 v m ((partN xs f m).map cVal) ∧ Bel w wr) (fun i _ _ => n + 2 - (intOf i).toNat)
  case atStart => exact ⟨0, Nat.zero_le _, by go_num, World.ownsRow_nil _ _ _ _, Bel.refl _⟩
  case round =>
    obtain ⟨m, hm, rfl, hown, hb⟩ := hrel
    by_cases hlt : m < k
    · have hcell := hb.cellv (HX.out (f + 2 * m) (by omega))
      have HP : Hid (partN xs f (m + 1) = partN xs f m ++ [xs.getD (f + 2 * m) (0, 0)]) := partN_succ _ _ _
      have hsz := hb.size
      generalize xs.getD (f + 2 * m) (0, 0) = x at hcell HP
      have hp := partN_length xs f m
      generalize partN xs f m = P at hown HP hp
      have HL : Hid (P.length = m) := hp
      clear hp
      simp only [cVal] at hcell
      go_wp2_with (first
        | (at_builtin; refine wpList_append_own _ rfl _ _ 67 rfl w.heap.size 72 i0 (.complex .f64 0 0) 1 16 Tryz.underlying67 hi hz0 hz1 hz2 rfl (by decide) _ _ _ rfl (hown.alloc _) ⟨wr.heap.size, 0, none⟩ 1 1 [.complex .f64 x.1 x.2] rfl rfl ?c1 ?c2 ?c3 ?c4 ?c5 ?_)
        | fail)
      case c1 => exact cell_one_new _ _ _
      case c2 => intro u hu; simp at hu; subst hu; rfl
      case c3 => unfold maxLen; omega
      case c4 => omega
      case c5 => simp; omega
      intro v' w1 hown' hgrow _
      have hb1 : Bel w w1 := Below.grown (hb.alloc _) hgrow (by simp; omega) (fun q hq => (hown.lt q hq).1)
      have hown2 : w1.ownsRow w.heap.size 72 1 v' (m + 1) ((partN xs f (m + 1)).map cVal) := by
        rw [HP.out, List.map_append]; exact hown'
      clear hown' hgrow hown
      go_wp2
      go_roundw
      case rel => exact ⟨m + 1, by omega, by go_num, hown2, hb1⟩
      case measure => simp [intOf]; omega
    · have : m = k := by omega
      subst this
      go_wp2
      go_ret
      exact ⟨_, rfl, hown, hb⟩

abbrev CArr := Arr 72 cVal

theorem parted_even (b off cap k : Nat) (xs : List C) (w : World) (h0 : 0 < k) (hl : xs.length ≤ 1000000) (hk : xs.length = 2 * k)
    (hx : ∀ i, i < xs.length → w.cell? ⟨b, off + i, none⟩ = some (cVal (xs.getD i (0, 0)))) :
    Calls Tryz.prog 100 #[.slice (some ⟨b, off, none⟩) xs.length cap, .int .i64 0] w fun e w' => RetArr 72 cVal k (partN xs 0 k) w e w' ∧ Bel w w' :=
  (parted_any b off cap 0 k xs w (by omega) hl hk hx).mono fun e w' ⟨v, he, ho, hb⟩ => by
    obtain ⟨g, c, rfl, hg, ha⟩ := arr_of_own ho (partN_length xs 0 k).symm h0
    exact ⟨⟨g, c, by rw [he, partN_length], partN_length xs 0 k, hg, ha⟩, hb⟩
theorem parted_odd (b off cap k : Nat) (xs : List C) (w : World) (h0 : 0 < k) (hl : xs.length ≤ 1000000) (hk : xs.length = 2 * k)
    (hx : ∀ i, i < xs.length → w.cell? ⟨b, off + i, none⟩ = some (cVal (xs.getD i (0, 0)))) :
    Calls Tryz.prog 100 #[.slice (some ⟨b, off, none⟩) xs.length cap, .int .i64 1] w fun e w' => RetArr 72 cVal k (partN xs 1 k) w e w' ∧ Bel w w' :=
  (parted_any b off cap 1 k xs w (by omega) hl hk hx).mono fun e w' ⟨v, he, ho, hb⟩ => by
    obtain ⟨g, c, rfl, hg, ha⟩ := arr_of_own ho (partN_length xs 1 k).symm h0
    exact ⟨⟨g, c, by rw [he, partN_length], partN_length xs 1 k, hg, ha⟩, hb⟩

end Go.Proofs.YtehiabiahipkhaaGreat

namespace Go.Proofs.YtehiabiahipkhaaGreat

/-- One product of a sum of n (1 or 3) terms. -/
def oddTerm (back : Bool) (xs : List C) (j k : Nat) : Option C := cMul (xs.getD k (0, 0)) (wy back (j * k : Nat) xs.length)
def oddOut (back : Bool) (xs : List C) (j : Nat) : Option C := (collect (oddTerm back xs j) xs.length).bind fun t => csumN t xs.length

/-- The two numbers that a butterfly makes. -/
def bfTurn (back : Bool) (n : Nat) (o : List C) (j : Nat) : Option C := cMul (wy back j n) (o.getD j (0, 0))
def bfLo (back : Bool) (n : Nat) (e o : List C) (j : Nat) : Option C := (bfTurn back n o j).bind fun t => cAdd (e.getD j (0, 0)) t
def bfHi (back : Bool) (n : Nat) (e o : List C) (j : Nat) : Option C := (bfTurn back n o j).bind fun t => cSub (e.getD j (0, 0)) t

/-- fft.line: the first number bounds how often it is halved. -/
def lineP : Nat → Bool → List C → Option (List C)
  | 0, _, _ => none
  | f + 1, back, xs =>
    if xs.length % 2 = 1 then collect (oddOut back xs) xs.length
    else
      (lineP f back (partN xs 0 (xs.length / 2))).bind fun e => (lineP f back (partN xs 1 (xs.length / 2))).bind fun o =>
      (collect (bfLo back xs.length e o) (xs.length / 2)).bind fun a => (collect (bfHi back xs.length e o) (xs.length / 2)).bind fun b => some (a ++ b)

theorem lineP_length {f : Nat} {back : Bool} {xs r : List C} (h : lineP f back xs = some r) : r.length = xs.length := by
  cases f with
  | zero => simp [lineP] at h
  | succ f =>
    unfold lineP at h
    split at h
    · exact (collect_some h (0, 0)).1
    · simp only [Option.bind_eq_some_iff, Option.some.injEq] at h
      obtain ⟨e, _, o, _, a, ha, b, hb, rfl⟩ := h
      rw [List.length_append, (collect_some ha (0, 0)).1, (collect_some hb (0, 0)).1]
      omega

/-- The list that a butterfly's loop fills from two sides: j of each half are there. -/
def halves (l : List C) (h j : Nat) : List C := (List.range l.length).map fun i => if i < j ∨ h ≤ i ∧ i < h + j then l.getD i (0, 0) else (0, 0)

theorem halves_length (l : List C) (h j : Nat) : (halves l h j).length = l.length := by simp [halves]
theorem halves_zero (l : List C) (h : Nat) : halves l h 0 = List.replicate l.length (0, 0) := by
  apply List.ext_getElem?; intro i
  by_cases hi : i < l.length
  · have : ¬ (h ≤ i ∧ i < h) := by omega
    simp [halves, hi, this]
  · simp [halves, hi]
theorem halves_all (l : List C) (h : Nat) (hl : l.length = 2 * h) : halves l h h = l := by
  apply List.ext_getElem?; intro i
  by_cases hi : i < l.length
  · have : i < h ∨ h ≤ i ∧ i < h + h := by omega
    simp [halves, hi, this, List.getD_eq_getElem?_getD]
  · simp [halves, hi]
theorem halves_succ (l : List C) (h j : Nat) (hj : j < h) : ((halves l h j).set j (l.getD j (0, 0))).set (j + h) (l.getD (j + h) (0, 0)) = halves l h (j + 1) := by
  apply List.ext_getElem?; intro i
  simp only [halves, List.getElem?_set, List.length_set, List.length_map, List.length_range, List.getElem?_map]
  by_cases hi : i < l.length
  · by_cases h1 : j + h = i
    · subst h1; simp [hi]; omega
    · by_cases h2 : j = i
      · subst h2; simp [hi]; intro h0; omega
      · have : (i < j + 1 ∨ h ≤ i ∧ i < h + (j + 1)) ↔ (i < j ∨ h ≤ i ∧ i < h + j) := by omega
        simp [h1, h2, hi, this]
  · by_cases h1 : j + h = i
    · subst h1; simp [hi]
    · by_cases h2 : j = i
      · subst h2; simp [hi]; intro h0; omega
      · simp [h1, h2, hi]

end Go.Proofs.YtehiabiahipkhaaGreat
