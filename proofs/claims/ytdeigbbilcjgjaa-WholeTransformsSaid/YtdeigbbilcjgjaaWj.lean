/-
  The walk of fft.Direct.
-/
import Derived.Test.YtdeigbbilcjgjaaWi
namespace Go.Proofs.Ytdeigbbilcjgjaa
open Go.RowKit
set_option linter.unusedVariables false
set_option linter.unusedSimpArgs false

/-- The turn that a place takes for an index. -/
def dirJ (h0 h1 h2 : Int) (n0 n1 n2 x y z : Nat) : Int := h0 * x * ((192 / n0 : Nat) : Int) + h1 * y * ((192 / n1 : Nat) : Int) + h2 * z * ((192 / n2 : Nat) : Int)
def dirTerm (h0 h1 h2 : Int) (n0 n1 n2 : Nat) (xs : List C) (p : Nat) : Option C :=
  cMul (xs.getD p (0, 0)) (wy false (dirJ h0 h1 h2 n0 n1 n2 (p / n2 / n1) (p / n2 % n1) (p % n2)) 192)
def directP (h0 h1 h2 : Int) (n0 n1 n2 : Nat) (xs : List C) : Option C :=
  (collect (dirTerm h0 h1 h2 n0 n1 n2 xs) (n0 * n1 * n2)).bind fun t => csumN t (n0 * n1 * n2)

theorem hb3 (a : Int) (x q : Nat) (h0 : -512 ≤ a) (h1 : a ≤ 512) (hx : x ≤ 192) (hq : q ≤ 192) :
    (-98304 ≤ a * x ∧ a * x ≤ 98304) ∧ -18874368 ≤ a * x * q ∧ a * x * q ≤ 18874368 := by
  have hx0 : (0 : Int) ≤ x := by omega
  have hq0 : (0 : Int) ≤ q := by omega
  have e1 : a * x ≤ 512 * x := Int.mul_le_mul_of_nonneg_right h1 hx0
  have e2 : -512 * (x : Int) ≤ a * x := Int.mul_le_mul_of_nonneg_right h0 hx0
  have e3 : a * x ≤ 98304 := by omega
  have e4 : -98304 ≤ a * x := by omega
  have f1 : a * x * q ≤ 98304 * q := Int.mul_le_mul_of_nonneg_right e3 hq0
  have f2 : -98304 * (q : Int) ≤ a * x * q := Int.mul_le_mul_of_nonneg_right e4 hq0
  omega

theorem place_lt (n0 n1 n2 x y z : Nat) (hx : x < n0) (hy : y < n1) (hz : z < n2) : (x * n1 + y) * n2 + z < n0 * n1 * n2 := by
  have h1 : x * n1 + y + 1 ≤ n0 * n1 := by
    have : (x + 1) * n1 ≤ n0 * n1 := Nat.mul_le_mul_right _ hx
    rw [Nat.add_mul, Nat.one_mul] at this; omega
  have h2 : (x * n1 + y + 1) * n2 ≤ n0 * n1 * n2 := Nat.mul_le_mul_right _ h1
  rw [Nat.add_mul (x * n1 + y) 1, Nat.one_mul] at h2
  omega
theorem place_z (n1 n2 x y z : Nat) (hz : z < n2) : ((x * n1 + y) * n2 + z) % n2 = z := by
  rw [Nat.add_comm, Nat.add_mul_mod_self_right, Nat.mod_eq_of_lt hz]
theorem place_q (n1 n2 x y z : Nat) (hz : z < n2) : ((x * n1 + y) * n2 + z) / n2 = x * n1 + y := by
  rw [Nat.add_comm, Nat.add_mul_div_right _ _ (by omega), Nat.div_eq_of_lt hz, Nat.zero_add]
theorem place_y (n1 n2 x y z : Nat) (hy : y < n1) (hz : z < n2) : ((x * n1 + y) * n2 + z) / n2 % n1 = y := by
  rw [place_q _ _ _ _ _ hz, Nat.add_comm, Nat.add_mul_mod_self_right, Nat.mod_eq_of_lt hy]
theorem place_x (n1 n2 x y z : Nat) (hy : y < n1) (hz : z < n2) : ((x * n1 + y) * n2 + z) / n2 / n1 = x := by
  rw [place_q _ _ _ _ _ hz, Nat.add_comm, Nat.add_mul_div_right _ _ (by omega), Nat.div_eq_of_lt hy, Nat.zero_add]

set_option maxHeartbeats 4000000 in
theorem Direct_any (b off cap n0 n1 n2 L : Nat) (h0 h1 h2 : Int) (xs : List C) (r : C) (w : World) (hs : Sides n0 n1 n2) (hL : n0 * n1 * n2 = L) (hxl : xs.length = L)
    (u0 : -512 ≤ h0) (v0 : h0 ≤ 512) (u1 : -512 ≤ h1) (v1 : h1 ≤ 512) (u2 : -512 ≤ h2) (v2 : h2 ≤ 512) (hz : directP h0 h1 h2 n0 n1 n2 xs = some r)
    (hx : ∀ i, i < L → w.cell? ⟨b, off + i, none⟩ = some (cVal (xs.getD i (0, 0)))) :
    Calls Try.prog 10 #[gridV n0 n1 n2 (some ⟨b, off, none⟩) L cap, .agg #[.int .i64 h0, .int .i64 h1, .int .i64 h2]] w fun e w' =>
      e = .returned (.tuple #[cVal r, .int .i64 0]) ∧ Bel w w' := by
  obtain ⟨i0, hi, hz0, hz1, hz2⟩ := info_parts info_c
  unfold directP at hz
  obtain ⟨t, ht, hr⟩ := Option.bind_eq_some_iff.1 hz
  rw [hL] at ht hr
  have HT := Lib.hid ht
  have HRR := Lib.hid hr
  have HS := Lib.hid hs
  have HL : Hid (n0 * n1 * n2 = L) := hL
  have HXL : Hid (xs.length = L) := hxl
  have HX := Lib.hid hx
  have bn0 := hs.b0
  have bn1 := hs.b1
  have bn2 := hs.b2
  have an0 := hs.a0
  have an1 := hs.a1
  have an2 := hs.a2
  have hLs : L ≤ 262144 := by rw [← hL]; exact hs.p
  have HC := Lib.hid (fun w1 => check_ok n0 n1 n2 (some ⟨b, off, none⟩) cap w1 hs)
  rw [hL] at HC
  have HB0 : Hid (Bel w ((w.alloc (.cells #[.int .i64 n0, .int .i64 n1, .int .i64 n2, .slice (some ⟨b, off, none⟩) L cap] 29)).alloc (.cells #[.int .i64 h0, .int .i64 h1, .int .i64 h2] 26))) := ((Bel.refl w).alloc _).alloc _
  clear hz ht hr hs hL hxl hx
  go_enter Try.func10, Try.ntmps10
  go_wp2_with fail
  go_loop [15] (fun i => ∃ k : Nat, k ≤ 3 ∧ i = .int .i64 k) (fun i => 3 - (intOf i).toNat)
  case atStart => exact ⟨0, by omega, rfl⟩
  case round =>
    obtain ⟨k, hk, rfl⟩ := hrel
    match k, hk with
    | 0, _ =>
      go_wp2
      go_round
      case rel => exact ⟨1, by omega, by go_num⟩
      case measure => simp [intOf]
    | 1, _ =>
      go_wp2
      go_round
      case rel => exact ⟨2, by omega, by go_num⟩
      case measure => simp [intOf]
    | 2, _ =>
      go_wp2
      go_round
      case rel => exact ⟨3, by omega, by go_num⟩
      case measure => simp [intOf]
    | 3, _ =>
      go_wp2_with fail
      refine (HC.out _).mono ?_
      rintro e w1 ⟨rfl, hb1⟩
      have HN : Hid (∀ W, Bel w1 W → (W.cell? ⟨w.heap.size, 0, none⟩ = some (.int .i64 n0) ∧ W.cell? ⟨w.heap.size, 1, none⟩ = some (.int .i64 n1) ∧ W.cell? ⟨w.heap.size, 2, none⟩ = some (.int .i64 n2) ∧ W.cell? ⟨w.heap.size, 3, none⟩ = some (.slice (some ⟨b, off, none⟩) L cap)) ∧
          (W.cell? ⟨w.heap.size + 1, 0, none⟩ = some (.int .i64 h0) ∧ W.cell? ⟨w.heap.size + 1, 1, none⟩ = some (.int .i64 h1) ∧ W.cell? ⟨w.heap.size + 1, 2, none⟩ = some (.int .i64 h2))) := by
        intro W hW
        have h := hb1.trans hW
        refine ⟨⟨h.cellv ?_, h.cellv ?_, h.cellv ?_, h.cellv ?_⟩, h.cellv ?_, h.cellv ?_, h.cellv ?_⟩
        · exact ((Bel.refl _).alloc _).cellv (cell_new _ _ _ _)
        · exact ((Bel.refl _).alloc _).cellv (cell_new _ _ _ _)
        · exact ((Bel.refl _).alloc _).cellv (cell_new _ _ _ _)
        · exact ((Bel.refl _).alloc _).cellv (cell_new _ _ _ _)
        · exact cell_new2 _ _ _ _ _
        · exact cell_new2 _ _ _ _ _
        · exact cell_new2 _ _ _ _ _
      have HB1 : Hid (Bel w w1) := HB0.out.trans hb1
      have n0c := (HN.out w1 (Bel.refl w1)).1.1
      clear hb1
      go_wp2_with fail
      clear n0c
      go_loopw [9, 33] (fun v i wr => ∃ x : Nat, x ≤ n0 ∧ i = .int .i64 x ∧ wr.ownsRow w1.heap.size 35 1 v (x * (n1 * n2)) ((t.take (x * (n1 * n2))).map cVal) ∧ Bel w1 wr) (fun _ i _ => n0 - (intOf i).toNat)
      case atStart => exact ⟨0, Nat.zero_le _, rfl, by simpa using World.ownsRow_nil w1 w1.heap.size 35 1, Bel.refl _⟩
      case round =>
        obtain ⟨x, hx, rfl, hown, hbw⟩ := hrel
        by_cases hltx : x < n0
        · obtain ⟨⟨k0, k1, k2, k3⟩, l0, l1, l2⟩ := HN.out wr hbw
          have HO := Lib.hid hown
          have HBW := Lib.hid hbw
          obtain ⟨wX, rfl⟩ : ∃ wX : World, wX = wr := ⟨_, rfl⟩
          clear hown hbw k0 k2 k3 l0 l1 l2
          go_wp2_with fail
          clear k1
          go_loopw [9, 39] (fun v i wr => ∃ y : Nat, y ≤ n1 ∧ i = .int .i64 y ∧ wr.ownsRow w1.heap.size 35 1 v ((x * n1 + y) * n2) ((t.take ((x * n1 + y) * n2)).map cVal) ∧ Bel w1 wr) (fun _ i _ => n1 - (intOf i).toNat)
          case atStart => exact ⟨0, Nat.zero_le _, rfl, by rw [Nat.add_zero, Nat.mul_assoc]; exact HO.out, HBW.out⟩
          case round =>
            clear HO HBW
            obtain ⟨y, hy, rfl, hown, hbw⟩ := hrel
            by_cases hlty : y < n1
            · obtain ⟨⟨k0, k1, k2, k3⟩, l0, l1, l2⟩ := HN.out wr hbw
              have HO := Lib.hid hown
              have HBW := Lib.hid hbw
              obtain ⟨wY, rfl⟩ : ∃ wY : World, wY = wr := ⟨_, rfl⟩
              clear hown hbw k0 k1 k3 l0 l1 l2
              go_wp2_with fail
              clear k2
              go_loopw [9, 45] (fun v i wr => ∃ z : Nat, z ≤ n2 ∧ i = .int .i64 z ∧ wr.ownsRow w1.heap.size 35 1 v ((x * n1 + y) * n2 + z) ((t.take ((x * n1 + y) * n2 + z)).map cVal) ∧ Bel w1 wr) (fun _ i _ => n2 - (intOf i).toNat)
              case atStart => exact ⟨0, Nat.zero_le _, rfl, by rw [Nat.add_zero]; exact HO.out, HBW.out⟩
              case round =>
                clear HO HBW
                obtain ⟨z, hz, rfl, hown, hbw⟩ := hrel
                by_cases hltz : z < n2
                · obtain ⟨⟨k0, k1, k2, k3⟩, l0, l1, l2⟩ := HN.out wr hbw
                  obtain ⟨ao, cp, rfl⟩ := ownsRow_form hown
                  obtain ⟨p, hp⟩ : ∃ p, p = (x * n1 + y) * n2 + z := ⟨_, rfl⟩
                  have hpL : p < L := by rw [hp, ← HL.out]; exact place_lt _ _ _ _ _ _ hltx hlty hltz
                  have HTT : Hid (dirTerm h0 h1 h2 n0 n1 n2 xs p = some (t.getD p (0, 0))) := (collect_some HT.out (0, 0)).2 p hpL
                  have HM : Hid (cMul (xs.getD p (0, 0)) (wy false (dirJ h0 h1 h2 n0 n1 n2 x y z) (192 : Nat)) = some (t.getD p (0, 0))) := by
                    have := HTT.out
                    unfold dirTerm at this
                    rw [hp, place_x _ _ _ _ _ hlty hltz, place_y _ _ _ _ _ hlty hltz, place_z _ _ _ _ _ hltz, ← hp] at this
                    exact this
                  have HO := Lib.hid hown
                  have HBW := Lib.hid hbw
                  rw [← hp] at HO
                  rw [← hp]
                  have HP := Lib.hid hp
                  clear hown hbw hp
                  have hq0 : 192 / n0 ≤ 192 := Nat.div_le_self _ _
                  have hq1 : 192 / n1 ≤ 192 := Nat.div_le_self _ _
                  have hq2 : 192 / n2 ≤ 192 := Nat.div_le_self _ _
                  obtain ⟨⟨a1, a2⟩, a3, a4⟩ := hb3 h0 x (192 / n0) u0 v0 (by omega) hq0
                  obtain ⟨⟨b1, b2⟩, b3, b4⟩ := hb3 h1 y (192 / n1) u1 v1 (by omega) hq1
                  obtain ⟨⟨c1, c2⟩, c3, c4⟩ := hb3 h2 z (192 / n2) u2 v2 (by omega) hq2
                  have d0 : ((192 / n0 : Nat) : Int) = (192 : Int) / n0 := Int.natCast_ediv 192 n0
                  have d1 : ((192 / n1 : Nat) : Int) = (192 : Int) / n1 := Int.natCast_ediv 192 n1
                  have d2 : ((192 / n2 : Nat) : Int) = (192 : Int) / n2 := Int.natCast_ediv 192 n2
                  have HJ : Hid (h0 * x * ((192 : Int) / n0) + h1 * y * ((192 : Int) / n1) + h2 * z * ((192 : Int) / n2) = dirJ h0 h1 h2 n0 n1 n2 x y z) := by
                    unfold Hid dirJ; rw [d0, d1, d2]
                  rw [d0] at a3 a4
                  rw [d1] at b3 b4
                  rw [d2] at c3 c4
                  have hq0' : (0 : Int) ≤ (192 : Int) / n0 := Int.ediv_nonneg (by omega) (by omega)
                  have hq1' : (0 : Int) ≤ (192 : Int) / n1 := Int.ediv_nonneg (by omega) (by omega)
                  have hq2' : (0 : Int) ≤ (192 : Int) / n2 := Int.ediv_nonneg (by omega) (by omega)
                  have hq0'' : (192 : Int) / n0 ≤ 192 := by omega
                  have hq1'' : (192 : Int) / n1 ≤ 192 := by omega
                  have hq2'' : (192 : Int) / n2 ≤ 192 := by omega
                  clear d0 d1 d2 hq0 hq1 hq2
                  have e1 : IntKind.i64.wrap (h0 * x) = h0 * x := IntWalk.i64_in _ (by omega)
                  have e2 : IntKind.i64.wrap (h1 * y) = h1 * y := IntWalk.i64_in _ (by omega)
                  have e3 : IntKind.i64.wrap (h2 * z) = h2 * z := IntWalk.i64_in _ (by omega)
                  have e4 : IntKind.i64.wrap ((192 : Int) / n0) = (192 : Int) / n0 := IntWalk.i64_in _ (by omega)
                  have e5 : IntKind.i64.wrap ((192 : Int) / n1) = (192 : Int) / n1 := IntWalk.i64_in _ (by omega)
                  have e6 : IntKind.i64.wrap ((192 : Int) / n2) = (192 : Int) / n2 := IntWalk.i64_in _ (by omega)
                  have e7 : IntKind.i64.wrap (h0 * x * ((192 : Int) / n0)) = h0 * x * ((192 : Int) / n0) := IntWalk.i64_in _ (by omega)
                  have e8 : IntKind.i64.wrap (h1 * y * ((192 : Int) / n1)) = h1 * y * ((192 : Int) / n1) := IntWalk.i64_in _ (by omega)
                  have e9 : IntKind.i64.wrap (h2 * z * ((192 : Int) / n2)) = h2 * z * ((192 : Int) / n2) := IntWalk.i64_in _ (by omega)
                  have e10 : IntKind.i64.wrap (h0 * x * ((192 : Int) / n0) + h1 * y * ((192 : Int) / n1)) = h0 * x * ((192 : Int) / n0) + h1 * y * ((192 : Int) / n1) := IntWalk.i64_in _ (by omega)
                  have e11 : IntKind.i64.wrap (h0 * x * ((192 : Int) / n0) + h1 * y * ((192 : Int) / n1) + h2 * z * ((192 : Int) / n2)) = h0 * x * ((192 : Int) / n0) + h1 * y * ((192 : Int) / n1) + h2 * z * ((192 : Int) / n2) := IntWalk.i64_in _ (by omega)
                  have t0 : (192 : Int).tdiv n0 = (192 : Int) / n0 := Int.tdiv_eq_ediv_of_nonneg (by omega)
                  have t1 : (192 : Int).tdiv n1 = (192 : Int) / n1 := Int.tdiv_eq_ediv_of_nonneg (by omega)
                  have t2 : (192 : Int).tdiv n2 = (192 : Int) / n2 := Int.tdiv_eq_ediv_of_nonneg (by omega)
                  have z0 : ¬ n0 = 0 := by omega
                  have z1 : ¬ n1 = 0 := by omega
                  have z2 : ¬ n2 = 0 := by omega
                  go_wp2_with fail
                  go_region_held3 (fun w' => (w'.cell? ⟨w.heap.size, 0, none⟩ = some (.int .i64 n0) ∧ w'.cell? ⟨w.heap.size, 1, none⟩ = some (.int .i64 n1) ∧ w'.cell? ⟨w.heap.size, 2, none⟩ = some (.int .i64 n2)) ∧ (w'.cell? ⟨w.heap.size + 1, 0, none⟩ = some (.int .i64 h0) ∧ w'.cell? ⟨w.heap.size + 1, 1, none⟩ = some (.int .i64 h1) ∧ w'.cell? ⟨w.heap.size + 1, 2, none⟩ = some (.int .i64 h2))) (exact ⟨⟨k0, k1, k2⟩, l0, l1, l2⟩) (fail)
                  have j0 : -1000000000 ≤ h0 * x * ((192 : Int) / n0) + h1 * y * ((192 : Int) / n1) + h2 * z * ((192 : Int) / n2) := by omega
                  have j1 : h0 * x * ((192 : Int) / n0) + h1 * y * ((192 : Int) / n1) + h2 * z * ((192 : Int) / n2) ≤ 1000000000 := by omega
                  generalize hJ : h0 * x * ((192 : Int) / n0) + h1 * y * ((192 : Int) / n1) + h2 * z * ((192 : Int) / n2) = J at j0 j1 HJ ⊢
                  clear a1 a2 a3 a4 b1 b2 b3 b4 c1 c2 c3 c4 e1 e2 e3 e4 e5 e6 e7 e8 e9 e10 e11 t0 t1 t2 hJ hq0' hq1' hq2' hq0'' hq1'' hq2''
                  rw [← HJ.out] at HM
                  generalize hxp : xs.getD p (0, 0) = xp at HM
                  have HXP : Hid (xs.getD p (0, 0) = xp) := hxp
                  generalize htp : t.getD p (0, 0) = tp at HM
                  have HTP : Hid (t.getD p (0, 0) = tp) := htp
                  clear hxp htp
                  have HS1 : Hid (w1.cell? ⟨w.heap.size, 3, none⟩ = some (.slice (some ⟨b, off, none⟩) L cap) ∧ w1.cell? ⟨b, off + p, none⟩ = some (cVal xp)) := ⟨(HN.out w1 (Bel.refl w1)).1.2.2.2, by rw [← HXP.out]; exact HB1.out.cellv (HX.out p hpL)⟩
                  have hb0 : Bel wr wr.drew.drew := (Bel.refl wr).drew.drew
                  clear k0 k1 k2 k3 l0 l1 l2
                  go_wp2_with fail
                  go_region_held3 (fun w' => w'.cell? ⟨w.heap.size, 3, none⟩ = some (.slice (some ⟨b, off, none⟩) L cap) ∧ w'.cell? ⟨b, off + p, none⟩ = some (cVal xp)) ((refine ⟨Bel.cellv ?_ HS1.out.1, Bel.cellv ?_ HS1.out.2⟩ <;> first | assumption | exact HBW.out.drew.drew | (refine Bel.trans HBW.out ?_; first | assumption | (refine Bel.alloc ?_ _; assumption)))) (first | (go_at_call 24; refine (callsFrom (there_any _ 192 j0 j1 (by omega) (by omega) (by omega) _) (by assumption)).mono ?_; rintro e w' ⟨rfl, hb⟩) | (go_at_call 23; refine (mul_any _ _ _ _ HM.out).mono ?_; rintro e w' ⟨rfl, rfl⟩) | (refine step_append_one (by rfl) _ _ 27 (by rfl) 35 i0 cVal _ 16 Try.underlying27 hi hz0 hz1 hz2 rfl (.slice ao p cp) p (t.take p) (by rfl) w1 ((ownsRow_bel HO.out hb).alloc _) ((HBW.out.trans hb).alloc _) ⟨w'.heap.size, 0, none⟩ 1 tp (by rfl) (cell_new _ _ _ _) rfl (by omega) (by omega) ?_; intro v' w2 hown2 hb2))
                  have HOW : Hid (w2.ownsRow w1.heap.size 35 1 v' ((x * n1 + y) * n2 + (z + 1)) ((t.take ((x * n1 + y) * n2 + (z + 1))).map cVal)) := by
                    have htl := (collect_some HT.out (0, 0)).1
                    have e : t.take ((x * n1 + y) * n2 + (z + 1)) = t.take p ++ [tp] := by
                      rw [← Nat.add_assoc, ← HP.out, List.take_succ_eq_append_getElem (by omega), ← HTP.out]
                      simp [List.getD_eq_getElem?_getD, List.getElem?_eq_getElem (show p < t.length by omega)]
                    unfold Hid
                    rw [e, ← Nat.add_assoc, ← HP.out]
                    exact hown2
                  have HB2 := Lib.hid hb2
                  clear hown2 hb2 hb hb0
                  go_wp2_with fail
                  go_roundw
                  case rel => exact ⟨z + 1, by omega, by go_num, HOW.out, HB2.out⟩
                  case measure => simp [intOf]; omega
                · have : z = n2 := by omega
                  subst this
                  have HO := Lib.hid hown
                  have HBW := Lib.hid hbw
                  clear hown hbw
                  go_wp2
                  go_roundw
                  case rel => exact ⟨y + 1, by omega, by go_num, by rw [← Nat.add_assoc, Nat.add_mul (x * n1 + y) 1 z, Nat.one_mul]; exact HO.out, HBW.out⟩
                  case measure => simp [intOf]; omega
            · have : y = n1 := by omega
              subst this
              have HO := Lib.hid hown
              have HBW := Lib.hid hbw
              clear hown hbw
              go_wp2
              go_roundw
              case rel => exact ⟨x + 1, by omega, by go_num, by rw [Nat.add_mul x 1, Nat.one_mul, ← Nat.mul_assoc, ← Nat.add_mul]; exact HO.out, HBW.out⟩
              case measure => simp [intOf]; omega
        · have : x = n0 := by omega
          subst this
          have e : x * (n1 * n2) = L := by rw [← Nat.mul_assoc]; exact HL.out
          have htl := (collect_some HT.out (0, 0)).1
          have hLp : 0 < L := by
            rw [← HL.out]
            exact Nat.mul_pos (Nat.mul_pos HS.out.a0 HS.out.a1) HS.out.a2
          rw [e, List.take_of_length_le (by omega)] at hown
          obtain ⟨g, c, rfl, hg, ha⟩ := arr_of_own hown htl.symm hLp
          rw [htl]
          have HSUM := Lib.hid (fun W (hW : W = wr) => sum_any g 0 L c t r W (by omega) HRR.out (by rw [hW]; intro i hi; rw [Nat.zero_add]; exact ha.cell (by rw [htl]; exact hi) _))
          have HBW := Lib.hid hbw
          clear hown hbw ha htl e
          go_wp2_with fail
          refine (HSUM.out _ rfl).mono ?_
          rintro e w2 ⟨rfl, rfl⟩
          go_wp2_with fail
          go_ret2
          exact ⟨rfl, HB1.out.trans HBW.out⟩

end Go.Proofs.Ytdeigbbilcjgjaa
