/-
  The walks of the turns: turn.cosines, turn.cosine, turn.Of, fft.there, fft.back.
-/
import Derived.Test.YtdeigbbilcjgjaaWa
import Derived.Great.Walk
import Derived.Laws.CopyOwn
namespace Go.Proofs.Ytdeigbbilcjgjaa
open Go.RowKit
set_option linter.unusedVariables false
set_option linter.unusedSimpArgs false

def cosArr : Array Value := (cosList.map (Value.int .u64)).toArray
def zero48 : Array Value := (List.replicate 48 (Value.int .u64 0)).toArray

set_option maxRecDepth 100000 in
theorem cosines_any (w : World) :
    Calls Try.prog 43 #[] w fun e w' => e = .returned (.agg cosArr) ∧ Bel w w' := by
  refine calls_of_wp Try.func43 rfl ?_
  refine Great.wp_anyFrame 2 (by kernel_rfl) rfl fun a0 hs0 hd0 => ?_
  apply wp_seq_k; intro K0 hK0
  apply wp_region_lit
  refine Great.wpList_allocTo rfl (some 0) rfl (.pointer (some ⟨w.heap.size, 0, none⟩)) (.cells zero48 74) (by as_aux_lemma => kernel_rfl) ?_
  apply wpList_nil
  refine hK0 _ _ ?_
  clear hK0 K0
  apply wp_seq_k; intro K1 hK1
  apply wp_region_lit
  refine wpList_buildFlatArrTo rfl 74 69 48 _ rfl .u64 cosList (some 1) rfl (by as_aux_lemma => kernel_rfl) (by as_aux_lemma => kernel_rfl) (by as_aux_lemma => kernel_rfl) (by as_aux_lemma => kernel_rfl) ?_
  refine wpList_store_rowTo rfl 74 _ _ rfl rfl w.heap.size cosArr (by rw [Act.eval_put_ne _ _ _ _ (by decide), Act.eval_put_same _ 0 _ (by omega)]) (Act.eval_put_same _ 1 _ (by simp only [Act.size_put, hs0]; omega)) 74 zero48 (heap_alloc_new _ _) (by as_aux_lemma => kernel_rfl) (by as_aux_lemma => kernel_rfl) (by as_aux_lemma => kernel_rfl) ?_
  apply wpList_nil
  refine hK1 _ _ ?_
  clear hK1 K1
  refine wp_ret ?_
  refine bodyPost_ret (v := .agg cosArr) ?_ (by simp only [Act.defers_put', hd0]) ⟨rfl, ?_⟩
  · refine results_cell_row (p := 0) (ty := 74) rfl _ _ w.heap.size 74 cosArr (0, 0) _ ?_ (setRow_heap _ _ zero48 _ _ _ (heap_alloc_new _ _)) Try.underlying74 rfl (by as_aux_lemma => kernel_rfl)
    have := Act.eval_put_ne (a0.put (some 0) (.pointer (some ⟨w.heap.size, 0, none⟩))) 1 0 (.agg (List.map (Value.int IntKind.u64) cosList).toArray) (by decide)
    rw [Act.eval_put_same _ 0 _ (by omega)] at this
    exact this
  · exact ((Bel.refl _).alloc _).setRow (Nat.le_refl _) _

theorem index_cos (i : Int) (h0 : 0 ≤ i) (h1 : i < 48) (w : World) :
    (Instr.index 74 (.agg cosArr) (.int .i64 i)).run Try.prog w = .ok (.int .u64 (cosList.getD i.toNat 0)) w := by
  have hu := Try.underlying74
  have hs : (sizeOf 69).run Try.prog w = .ok 1 w := by as_aux_lemma => kernel_rfl
  have hl : cosArr[i.toNat]? = some (.int .u64 (cosList.getD i.toNat 0)) := by
    have : cosList.length = 48 := rfl
    unfold cosArr
    simp only [List.getElem?_toArray, List.getElem?_map, List.getD_eq_getElem?_getD]
    rw [List.getElem?_eq_getElem (by omega)]
    rfl
  have hp : (part 69 cosArr i.toNat).run Try.prog w = .ok (.int .u64 (cosList.getD i.toNat 0)) w :=
    run_part_plain _ (by as_aux_lemma => kernel_rfl) hl
  have hi : 0 ≤ i ∧ i < 48 := ⟨h0, h1⟩
  simp [Instr.index, asIntOf, run_underlying hu, hi, hs, hp]

@[go_sem] theorem run_frombits (n : Int) (w : World) :
    (callFunc 37 #[.int .u64 n]).run Try.prog w = .ok (.value (.float .f64 n.toNat)) w := by
  rw [run_callFunc_extern (f := 37) (fn := Try.f37) (e := Extern.MathFloatBits.float64frombits) rfl (by kernel_rfl) (by kernel_rfl) (by kernel_rfl) (by kernel_rfl)]
  rfl

theorem ret_f64 {a b : Nat} (h : a = b) : Ending.returned (.float .f64 a) = .returned (.float .f64 b) := by rw [h]

theorem cosine_any (j : Nat) (hj : j < 400) (w : World) :
    Calls Try.prog 42 #[.int .i64 j] w fun e w' => e = .returned (.float .f64 (cosB (j % 192))) ∧ Bel w w' := by
  by_cases a : 96 < j % 192
  · by_cases b : 192 - j % 192 < 48
    · have hi := fun w => index_cos (192 - (j : Int) % 192) (by omega) (by omega) w
      go_enter Try.func42, Try.ntmps42
      go_wp2_with (go_at_call 43; refine (cosines_any _).mono ?_; rintro e w' ⟨rfl, hb⟩)
      go_ret
      refine ⟨ret_f64 ?_, hb⟩
      simp [cosB, a, b]
    · by_cases c : 192 - j % 192 = 48
      · go_enter Try.func42, Try.ntmps42
        go_wp2_with (go_at_call 43; refine (cosines_any _).mono ?_; rintro e w' ⟨rfl, hb⟩)
        go_ret
        refine ⟨ret_f64 ?_, Bel.refl _⟩
        simp [cosB, a, c]
      · have hi := fun w => index_cos (96 - (192 - (j : Int) % 192)) (by omega) (by omega) w
        go_enter Try.func42, Try.ntmps42
        go_wp2_with (go_at_call 43; refine (cosines_any _).mono ?_; rintro e w' ⟨rfl, hb⟩)
        go_ret
        refine ⟨ret_f64 ?_, hb⟩
        simp [cosB, a, b, show 48 < 192 - j % 192 by omega]
  · by_cases b : j % 192 < 48
    · have hi := fun w => index_cos ((j : Int) % 192) (by omega) (by omega) w
      go_enter Try.func42, Try.ntmps42
      go_wp2_with (go_at_call 43; refine (cosines_any _).mono ?_; rintro e w' ⟨rfl, hb⟩)
      go_ret
      refine ⟨ret_f64 ?_, hb⟩
      simp [cosB, a, b]
    · by_cases c : j % 192 = 48
      · go_enter Try.func42, Try.ntmps42
        go_wp2_with (go_at_call 43; refine (cosines_any _).mono ?_; rintro e w' ⟨rfl, hb⟩)
        go_ret
        refine ⟨ret_f64 ?_, Bel.refl _⟩
        simp [cosB, c]
      · have hi := fun w => index_cos (96 - (j : Int) % 192) (by omega) (by omega) w
        go_enter Try.func42, Try.ntmps42
        go_wp2_with (go_at_call 43; refine (cosines_any _).mono ?_; rintro e w' ⟨rfl, hb⟩)
        go_ret
        refine ⟨ret_f64 ?_, hb⟩
        simp [cosB, a, b, show 48 < j % 192 by omega]

theorem cosine_int (x : Int) (h0 : 0 ≤ x) (h1 : x < 400) (w : World) :
    Calls Try.prog 42 #[.int .i64 x] w fun e w' => e = .returned (.float .f64 (cosB (x.toNat % 192))) ∧ Bel w w' := by
  have h := cosine_any x.toNat (by omega) w
  rw [Int.toNat_of_nonneg h0] at h
  exact h

theorem tmod_turn (j : Int) (m : Nat) : j.tmod m % m = j % m := by
  have h : j.tmod m = j - m * (j.tdiv m) := by
    have := Int.mul_tdiv_add_tmod j m; omega
  rw [h, Int.sub_mul_emod_self_left]

theorem turn_lt (r : Int) (m : Nat) (h2 : 192 % m = 0) (hr : r < m) : r * ((192 : Int) / m) < 192 := by
  have hq : ((192 / m : Nat) : Int) = (192 : Int) / m := Int.natCast_ediv 192 m
  have hm : m * (192 / m) = 192 := by have := Nat.div_add_mod 192 m; omega
  have hp : 0 < 192 / m := by rcases Nat.eq_zero_or_pos (192 / m) with h | h; · rw [h] at hm; omega
                              · exact h
  rw [← hq]
  have h1 : r * ((192 / m : Nat) : Int) ≤ ((m : Int) - 1) * ((192 / m : Nat) : Int) := Int.mul_le_mul_of_nonneg_right (by omega) (by omega)
  have h3 : (m : Int) * ((192 / m : Nat) : Int) = 192 := by rw [← Int.natCast_mul, hm]; rfl
  rw [Int.sub_mul] at h1
  omega

theorem turn_arg (j : Int) (m : Nat) : (j % m * ((192 : Int) / m)).toNat = (j % m).toNat * (192 / m) := by
  have hq : ((192 / m : Nat) : Int) = (192 : Int) / m := Int.natCast_ediv 192 m
  by_cases h : m = 0
  · subst h; simp
  · have : 0 ≤ j % m := Int.emod_nonneg _ (by omega)
    rw [← hq, Int.toNat_mul this (Int.natCast_nonneg _), Int.toNat_natCast]

theorem of_end (x : Int) (y : Nat) (h0 : 0 ≤ x) (h : x.toNat = y) :
    Value.complex .f64 (cosB (y % 192)) (cosB ((x + 144).toNat % 192)) = cVal (tw y) := by
  have : (x + 144).toNat = y + 144 := by omega
  rw [this]; rfl

/-- turn.Of at right arguments. -/
theorem of_any (j : Int) (m : Nat) (hj0 : -1000000000 ≤ j) (hj1 : j ≤ 1000000000) (h0 : 1 ≤ m) (h1 : m ≤ 192) (h2 : 192 % m = 0) (w : World) :
    Calls Try.prog 36 #[.int .i64 j, .int .i64 m] w fun e w' => e = .returned (.tuple #[cVal (tw ((j % m).toNat * (192 / m))), .int .i64 0]) ∧ Bel w w' := by
  have h3 : (192 : Int) % m = 0 := by have h := congrArg (fun n : Nat => (n : Int)) h2; simpa using h
  have hd : ((192 : Int) % m == 0) = true := by simp [h3]
  have hd' : ((192 : Int) % m != 0) = false := by simp [h3]
  clear h3
  have b1 : (-(m : Int)) < j.tmod m := by have := Int.lt_tmod_of_pos j (b := m) (by omega); omega
  have b2 : j.tmod m < m := Int.tmod_lt_of_pos j (by omega)
  have b3 : (192 : Int) / m ≤ 192 := by
    have := Int.ediv_le_self (a := 192) m (by omega); omega
  have b4 : (0 : Int) ≤ 192 / m := Int.ediv_nonneg (by omega) (by omega)
  have b5 : (0 : Int) ≤ (j.tmod m + m) % m := Int.emod_nonneg _ (by omega)
  have b6 : (j.tmod m + m) % m < m := Int.emod_lt_of_pos _ (by omega)
  have b7 : j.tmod m % m * (192 / m) < 192 := turn_lt _ _ h2 (Int.emod_lt_of_pos _ (by omega))
  have b8 : (0 : Int) ≤ j.tmod m % m * (192 / m) := Int.mul_nonneg (Int.emod_nonneg _ (by omega)) b4
  have HA : Hid ((j.tmod m % m * ((192 : Int) / m)).toNat = (j % m).toNat * (192 / m)) := by rw [tmod_turn]; exact turn_arg j m
  have hb0 : Bel w w.drew := (Bel.refl w).drew
  go_enter Try.func36, Try.ntmps36
  go_wp2
  go_region
  go_wp2_with (go_at_call 42; refine (callsFrom (cosine_int _ ?_ ?_ _) (by assumption)).mono ?_; (omega); (omega); rintro e w' ⟨rfl, hb⟩)
  go_ret2
  refine ⟨?_, by assumption⟩
  show Ending.returned (.tuple #[Value.complex .f64 _ _, .int .i64 0]) = _
  rw [HA.out, of_end _ _ b8 HA.out]

/-- fft.there. -/
theorem there_any (j : Int) (m : Nat) (hj0 : -1000000000 ≤ j) (hj1 : j ≤ 1000000000) (h0 : 1 ≤ m) (h1 : m ≤ 192) (h2 : 192 % m = 0) (w : World) :
    Calls Try.prog 24 #[.int .i64 j, .int .i64 m] w fun e w' => e = .returned (cVal (wy false j m)) ∧ Bel w w' := by
  go_enter Try.func24, Try.ntmps24
  go_wp2_with (go_at_call 36; refine (of_any _ _ hj0 hj1 h0 h1 h2 _).mono ?_; rintro e w' ⟨rfl, hb⟩)
  go_ret
  exact ⟨rfl, hb⟩

theorem back_any (j : Int) (m : Nat) (hj0 : -1000000000 ≤ j) (hj1 : j ≤ 1000000000) (h0 : 1 ≤ m) (h1 : m ≤ 192) (h2 : 192 % m = 0) (w : World) :
    Calls Try.prog 35 #[.int .i64 j, .int .i64 m] w fun e w' => e = .returned (cVal (wy true j m)) ∧ Bel w w' := by
  go_enter Try.func35, Try.ntmps35
  go_wp2_with (first | (go_at_call 24; refine (there_any _ _ hj0 hj1 h0 h1 h2 _).mono ?_; rintro e w' ⟨rfl, hb⟩) | (go_at_call 41; refine (conj_any _ _).mono ?_; rintro e w' ⟨rfl, rfl⟩))
  go_ret
  exact ⟨rfl, hb⟩

end Go.Proofs.Ytdeigbbilcjgjaa
