/-
  The walks of cplx.Sum and fft.parted.
-/
import Derived.Test.YtdeigbbilcjgjaaWb
import Derived.Lib.Hide
namespace Go.Proofs.Ytdeigbbilcjgjaa
open Go.RowKit
set_option linter.unusedVariables false
set_option linter.unusedSimpArgs false

theorem sum_any (b off n cap : Nat) (xs : List C) (r : C) (w : World) (hl : n ≤ 1000000) (h : csumN xs n = some r)
    (hx : ∀ i, i < n → w.cell? ⟨b, off + i, none⟩ = some (cVal (xs.getD i (0, 0)))) :
    Calls Try.prog 25 #[.slice (some ⟨b, off, none⟩) n cap] w fun e w' => e = .returned (cVal r) ∧ w = w' := by
  have H : Hid (csumN xs n = some r) := h
  have HX : Hid (∀ i, i < n → w.cell? ⟨b, off + i, none⟩ = some (cVal (xs.getD i (0, 0)))) := hx
  clear h hx
  go_enter Try.func25, Try.ntmps25
  go_wp2
  go_loop [3, 8] (fun s i => ∃ k : Nat, k ≤ n ∧ i = .int .i64 k ∧ ∃ c : C, csumN xs k = some c ∧ s = cVal c) (fun _ i => n - (intOf i).toNat)
  case atStart => exact ⟨0, Nat.zero_le _, rfl, (0, 0), rfl, rfl⟩
  case round =>
    obtain ⟨k, hk, rfl, c, hc, rfl⟩ := hrel
    by_cases hlt : k < n
    · obtain ⟨c', hc', ha⟩ := csumN_step H.out k hlt hc
      have HC : Hid (csumN xs (k + 1) = some c') := hc'
      clear hc' hc
      have hcell := HX.out k hlt
      have o1 := fun t w => run_complex_sum (P := Try.prog) w .add (Or.inl rfl) t .f64 _ _ _ _ _ _ ha
      clear ha
      generalize xs.getD k (0, 0) = x at hcell o1
      simp only [cVal] at hcell ⊢
      go_wp2
      go_round
      case rel => exact ⟨k + 1, by omega, by go_num, c', HC.out, rfl⟩
      case measure => simp [intOf]; omega
    · have : k = n := by omega
      subst this
      have : c = r := by have := H.out; rw [hc] at this; exact Option.some.inj this
      subst this
      clear hc
      go_wp2
      go_ret
      exact ⟨rfl, rfl⟩

theorem info_c : (Try.prog.info? 35).map (fun i => (i.zero, i.size, i.bytes)) = some (some (.complex .f64 0 0), 1, 16) := by kernel_rfl

set_option maxHeartbeats 400000 in
theorem parted_any (b off cap f k : Nat) (xs : List C) (w : World) (hf : f ≤ 1) (hl : xs.length ≤ 1000000) (hk : xs.length = 2 * k)
    (hx : ∀ i, i < xs.length → w.cell? ⟨b, off + i, none⟩ = some (cVal (xs.getD i (0, 0)))) :
    Calls Try.prog 40 #[.slice (some ⟨b, off, none⟩) xs.length cap, .int .i64 f] w fun e w' =>
      ∃ v, e = .returned v ∧ w'.ownsRow w.heap.size 35 1 v k ((partN xs f k).map cVal) ∧ Bel w w' := by
  obtain ⟨i0, hi, hz0, hz1, hz2⟩ := info_parts info_c
  obtain ⟨n, hn⟩ : ∃ n, n = xs.length := ⟨_, rfl⟩
  have HK : Hid (n = 2 * k) := by unfold Hid; omega
  have hnk : n ≤ 2 * k := by omega
  have hnk' : 2 * k ≤ n := by omega
  rw [← hn] at hl hx ⊢
  clear hn hk
  have HX : Hid (∀ i, i < n → w.cell? ⟨b, off + i, none⟩ = some (cVal (xs.getD i (0, 0)))) := hx
  clear hx
  go_enter Try.func40, Try.ntmps40
  go_wp2
  go_loopw [1, 5] (fun i v wr => ∃ m : Nat, m ≤ k ∧ i = .int .i64 ((f + 2 * m : Nat) : Int) ∧ wr.ownsRow w.heap.size 35 1 v m ((partN xs f m).map cVal) ∧ Bel w wr) (fun i _ _ => n + 2 - (intOf i).toNat)
  case atStart => exact ⟨0, Nat.zero_le _, by go_num, World.ownsRow_nil _ _ _ _, Bel.refl _⟩
  case round =>
    obtain ⟨m, hm, rfl, hown, hb⟩ := hrel
    by_cases hlt : m < k
    · have hcell := hb.cellv (HX.out (f + 2 * m) (by omega))
      have HP : Hid (partN xs f (m + 1) = partN xs f m ++ [xs.getD (f + 2 * m) (0, 0)]) := partN_succ _ _ _
      have hsz := hb.size
      generalize xs.getD (f + 2 * m) (0, 0) = x at hcell HP
      have hp := partN_length xs f m
      generalize partN xs f m = P at hown HP hp
      have HL : Hid (P.length = m) := hp
      clear hp
      simp only [cVal] at hcell
      go_wp2_with (first
        | (at_builtin; refine wpList_append_own _ rfl _ _ 27 rfl w.heap.size 35 i0 (.complex .f64 0 0) 1 16 Try.underlying27 hi hz0 hz1 hz2 rfl (by decide) _ _ _ rfl (hown.alloc _) ⟨wr.heap.size, 0, none⟩ 1 1 [.complex .f64 x.1 x.2] rfl rfl ?c1 ?c2 ?c3 ?c4 ?c5 ?_)
        | fail)
      case c1 => exact cell_one_new _ _ _
      case c2 => intro u hu; simp at hu; subst hu; rfl
      case c3 => unfold maxLen; omega
      case c4 => omega
      case c5 => simp; omega
      intro v' w1 hown' hgrow _
      have hb1 : Bel w w1 := Below.grown (hb.alloc _) hgrow (by simp; omega) (fun q hq => (hown.lt q hq).1)
      have hown2 : w1.ownsRow w.heap.size 35 1 v' (m + 1) ((partN xs f (m + 1)).map cVal) := by
        rw [HP.out, List.map_append]; exact hown'
      clear hown' hgrow hown
      go_wp2
      go_roundw
      case rel => exact ⟨m + 1, by omega, by go_num, hown2, hb1⟩
      case measure => simp [intOf]; omega
    · have : m = k := by omega
      subst this
      go_wp2
      go_ret
      exact ⟨_, rfl, hown, hb⟩

abbrev CArr := Arr 35 cVal

theorem parted_even (b off cap k : Nat) (xs : List C) (w : World) (h0 : 0 < k) (hl : xs.length ≤ 1000000) (hk : xs.length = 2 * k)
    (hx : ∀ i, i < xs.length → w.cell? ⟨b, off + i, none⟩ = some (cVal (xs.getD i (0, 0)))) :
    Calls Try.prog 40 #[.slice (some ⟨b, off, none⟩) xs.length cap, .int .i64 0] w fun e w' => RetArr 35 cVal k (partN xs 0 k) w e w' ∧ Bel w w' :=
  (parted_any b off cap 0 k xs w (by omega) hl hk hx).mono fun e w' ⟨v, he, ho, hb⟩ => by
    obtain ⟨g, c, rfl, hg, ha⟩ := arr_of_own ho (partN_length xs 0 k).symm h0
    exact ⟨⟨g, c, by rw [he, partN_length], partN_length xs 0 k, hg, ha⟩, hb⟩
theorem parted_odd (b off cap k : Nat) (xs : List C) (w : World) (h0 : 0 < k) (hl : xs.length ≤ 1000000) (hk : xs.length = 2 * k)
    (hx : ∀ i, i < xs.length → w.cell? ⟨b, off + i, none⟩ = some (cVal (xs.getD i (0, 0)))) :
    Calls Try.prog 40 #[.slice (some ⟨b, off, none⟩) xs.length cap, .int .i64 1] w fun e w' => RetArr 35 cVal k (partN xs 1 k) w e w' ∧ Bel w w' :=
  (parted_any b off cap 1 k xs w (by omega) hl hk hx).mono fun e w' ⟨v, he, ho, hb⟩ => by
    obtain ⟨g, c, rfl, hg, ha⟩ := arr_of_own ho (partN_length xs 1 k).symm h0
    exact ⟨⟨g, c, by rw [he, partN_length], partN_length xs 1 k, hg, ha⟩, hb⟩

end Go.Proofs.Ytdeigbbilcjgjaa
