/-
  Whatever the sides, the numbers and the place, the law 'WholeTransforms' answers true, and its arguments read behind the call as they did.
-/
import Derived.Test.YtdeigbbilcjgjaaRows
import Derived.Test.YtdeigbbilcjgjaaTd
import Derived.Test.YtdeigbbilcjgjaaLd
import Derived.Test.YtdeigbbilcjgjaaEp
namespace Go.Proofs.Ytdeigbbilcjgjaa
open Go.ChangeShapes Go.WideShapes Go.ChangeAt Go.RowKit
set_option linter.unusedVariables false
set_option linter.unusedSimpArgs false

theorem Try.bytesShort : Try.prog.bytesOf 50 = 2 := by kernel_rfl

theorem len_cases : ∀ a, a < 14 → ∀ b, b < 5 → ∀ most, most = 6 ∨ most = 8 ∨ most = 12 →
    ((fun n => (n = 1 ∨ n = 2 ∨ n = 3 ∨ n = 4 ∨ n = 6 ∨ n = 8 ∨ n = 12) ∧ n ≤ most) (if lenTab.getD a 0 ≤ most then lenTab.getD a 0 else lenTab.getD b 0)) := by
  intro a ha b hb most hm
  rcases hm with rfl | rfl | rfl
  · revert a b; decide +kernel
  · revert a b; decide +kernel
  · revert a b; decide +kernel
theorem lenOf_n7 (k most : Nat) (hm : most = 6 ∨ most = 8 ∨ most = 12) : N7 (lenOf k most) ∧ lenOf k most ≤ most := by
  have := len_cases (k % 14) (Nat.mod_lt _ (by omega)) (k % 5) (Nat.mod_lt _ (by omega)) most hm
  unfold N7 lenOf
  exact this

theorem n7_side {n : Nat} (h : N7 n) : 1 ≤ n ∧ n ≤ 192 ∧ 192 % n = 0 := by
  unfold N7 at h
  rcases h with rfl | rfl | rfl | rfl | rfl | rfl | rfl <;> decide
theorem sides_of7 {n0 n1 n2 : Nat} (a0 : N7 n0) (a1 : N7 n1) (a2 : N7 n2) (h : n0 * n1 * n2 ≤ 576) : Sides n0 n1 n2 :=
  ⟨(n7_side a0).1, (n7_side a1).1, (n7_side a2).1, (n7_side a0).2.1, (n7_side a1).2.1, (n7_side a2).2.1, (n7_side a0).2.2, (n7_side a1).2.2, (n7_side a2).2.2, by omega⟩

/-- What an element of a row of shorts is. -/
theorem short_cell {H : Type} {enc : TypeId × Value → H} {w : World} {base : Nat} {spare : Nat → Bool} {held : Bool} {n : Nat} {a : Addr} {i : Nat} {x : DataW H × List MemPlace} {cs : List Value}
    (h1 : w.cells? base (a.add (i * 1)) 1 = some cs) (h2 : DataW.trod enc Try.prog w base spare held n 50 cs = some x) :
    ∃ z : Int, w.cell? (a.add i) = some (.int .i16 z) ∧ (Lit.int .i16 z).wf = true := by
  obtain ⟨_, hl, hc⟩ := World.cells?_some h1
  match cs, hl with
  | [c0], _ =>
    obtain ⟨x0, q0, _, w0⟩ := DataW.trod_int Try.underlying50 h2
    have k0 := hc 0 (by omega)
    rw [Go.Deep.add_add] at k0
    simp at q0
    subst q0
    exact ⟨x0, by simpa using k0, w0⟩

/-- THE WALK: true, and all that was there is as it was. -/
theorem wholeTransforms_any (k0 k1 k2 h0 h1 h2 : Nat) (ao : Option Addr) (len cap : Nat) (w : World) (c0 : k0 < 256) (c1 : k1 < 256) (c2 : k2 < 256) (d0 : h0 < 256) (d1 : h1 < 256) (d2 : h2 < 256) (hmm : len ≤ 281474976710656)
    (hx : ∀ i, i < len → ∃ a, ao = some a ∧ ∃ z : Int, w.cell? (a.add i) = some (.int .i16 z) ∧ (Lit.int .i16 z).wf = true) :
    Calls Try.prog 4 #[.agg #[.int .u8 k0, .int .u8 k1, .int .u8 k2], .slice ao len cap, .agg #[.int .u8 h0, .int .u8 h1, .int .u8 h2]] w fun e w' => e = .returned (.bool true) ∧ Bel w w' := by
  obtain ⟨a0, l0⟩ := lenOf_n7 k0 12 (Or.inr (Or.inr rfl))
  obtain ⟨a1, l1⟩ := lenOf_n7 k1 6 (Or.inl rfl)
  obtain ⟨a2, l2⟩ := lenOf_n7 k2 8 (Or.inr (Or.inl rfl))
  have p1 : lenOf k0 12 * lenOf k1 6 ≤ 12 * 6 := Nat.mul_le_mul l0 l1
  have p2 : lenOf k0 12 * lenOf k1 6 * lenOf k2 8 ≤ 12 * 6 * 8 := Nat.mul_le_mul p1 l2
  have hx' : ∀ i, ∃ z : Int, i < len → ∃ a, ao = some a ∧ w.cell? (a.add i) = some (.int .i16 z) ∧ (Lit.int .i16 z).wf = true := by
    intro i
    by_cases h : i < len
    · obtain ⟨a, ha, p, hp⟩ := hx i h
      exact ⟨p, fun _ => ⟨a, ha, hp⟩⟩
    · exact ⟨0, fun h' => absurd h' h⟩
  obtain ⟨zs, hf⟩ := Classical.skolem.1 hx'
  have hz : ∀ i, i < len → -32768 ≤ zs i ∧ zs i ≤ 32767 := fun i hi => by
    obtain ⟨a, _, _, w0⟩ := hf i hi
    have := bounds_i16 w0
    omega
  obtain ⟨b, off, hao⟩ : ∃ b off, 0 < len → ao = some ⟨b, off, none⟩ := by
    by_cases h : 0 < len
    · obtain ⟨a, ha, h1, _⟩ := hf 0 h
      obtain ⟨b, off, spot⟩ := a
      have hs : spot = none := by simpa [Addr.add] using World.cell?_spot h1
      subst hs
      exact ⟨b, off, fun _ => ha⟩
    · exact ⟨0, 0, fun h' => absurd h' h⟩
  obtain ⟨va, vb, tP, lim, H⟩ := whole_law a0 a1 a2 (by omega) (topVs zs len (lenOf k0 12 * lenOf k1 6 * lenOf k2 8)) (topVs_length _ _ _) (by
    intro i hi
    rw [topVs_length] at hi
    rw [topVs_get _ _ _ _ hi]
    unfold topAt
    split
    · have := hz (2 * i) (by omega)
      have := hz (2 * i + 1) (by omega)
      constructor <;> omega
    · split
      · have := tmod7 (zs (i % len))
        constructor <;> omega
      · constructor <;> decide) h0 h1 h2
  refine top12_walk b off cap _ _ _ _ k0 k1 k2 h0 h1 h2 zs va vb tP lim w c0 c1 c2 d0 d1 d2 rfl rfl rfl l0 (by omega) (by omega) rfl (by omega) (sides_of7 a0 a1 a2 (by omega)) ao len hmm ?_ H
  intro i hi
  have ha := hao (by omega)
  obtain ⟨a, h1, h2, h3⟩ := hf i hi
  rw [ha] at h1
  cases h1
  rw [addr_add] at h2
  exact ⟨ha, h2, hz i hi⟩

theorem nat_of_u8 {k : Int} (h : (Lit.int .u8 k).wf = true) : ∃ n : Nat, k = n ∧ n < 256 := by
  have := bounds_u8 h
  exact ⟨k.toNat, by omega, by omega⟩

set_option maxHeartbeats 4000000 in
set_option maxRecDepth 100000 in
theorem wholeTransforms_lifted (os : Os) (started : os.Started) (H : Type) (enc : TypeId × Value → H) :
    ReturnsInHanded {} Try.checked os 4 .any (Rows.wholeTransformsSpec.pre6 enc Try.prog Try.f4 Rows.wholeTransformsRow.domain false) (Rows.wholeTransformsSpec.post enc Try.prog Try.f4 false true false false) := by
  refine returnsInHanded_of_change_sized (C := Try.checked) Try.own started (by kernel_rfl) Try.func4
    (ChangeSpec.witness6 (enc := enc) (C := Try.checked) false ⟨#[], #[.agg #[.int .u8 0, .int .u8 0, .int .u8 0], .slice none 0 0, .agg #[.int .u8 0, .int .u8 0, .int .u8 0]], []⟩ 8 (by kernel_rfl) (by kernel_rfl) (by kernel_rfl) (by kernel_rfl)) ?_
  intro W base args ds gs before hval0 hW _ hsz0 _
  have hsz : (DataW.weightsEach Try.prog (Try.f4.params.toList ++ Rows.wholeTransformsSpec.plain.varTypes Try.prog) (ds ++ gs)).all (· ≤ reachBytes) = true := hsz0
  clear hsz0
  have hval : ∀ (j : Nat) t v, Try.f4.params[j]? = some t → args[j]? = some v → Value.okWide Try.prog W .any base t v := hval0
  have hW' := hW
  obtain ⟨p, q, hA0, hV, rfl, hfz, hnd⟩ := hW
  have hA : DataW.TrodAll enc Try.prog W 0 (fun _ => true) true Try.f4.params.toList args.toList ds p := hA0
  rw [Try.params4] at hA hval hsz
  obtain ⟨v0, v1, v2, e0, e1, e2, p0, p1, p2, rfl, rfl, rfl, h0, h1, h2⟩ := trodAll_three hA
  obtain ⟨rfl, rfl⟩ := trodVars_none hV
  clear hA0 hval0
  simp only [List.append_nil] at hW'
  have h0k := h0
  have h1k := h1
  have h2k := h2
  have lt0 : ∀ x ∈ p0, x.block < W.heap.size := fun x hx => by simpa using hW'.lt x (by simp [hx])
  have lt1 : ∀ x ∈ p1, x.block < W.heap.size := fun x hx => by simpa using hW'.lt x (by simp [hx])
  have lt2 : ∀ x ∈ p2, x.block < W.heap.size := fun x hx => by simpa using hW'.lt x (by simp [hx])
  obtain ⟨cs, rfl, hcs, _⟩ : ∃ cs, v0 = .agg cs ∧ cs.size = Try.prog.cellsOf 22 ∧ Row.okWide Try.prog W .any base 22 cs := by
    have := hval 0 22 v0 rfl rfl
    simpa [Value.okWide, Try.underlying22] using this
  obtain ⟨cs2, rfl, hcs2, _⟩ : ∃ cs, v2 = .agg cs ∧ cs.size = Try.prog.cellsOf 22 ∧ Row.okWide Try.prog W .any base 22 cs := by
    have := hval 2 22 v2 rfl rfl
    simpa [Value.okWide, Try.underlying22] using this
  rw [Try.cellsSides] at hcs hcs2
  obtain ⟨l⟩ := cs
  obtain ⟨x0, x1, x2, rfl⟩ := list3 l (by simpa using hcs)
  obtain ⟨l2⟩ := cs2
  obtain ⟨z0, z1, z2, rfl⟩ := list3 l2 (by simpa using hcs2)
  obtain ⟨fuel, hf⟩ := h0
  obtain ⟨y0, y1, y2, m, _, hy0, hy1, hy2⟩ := trod_array3 Try.underlying22 Try.cellsByte hf
  obtain ⟨k0, g0, _, w0⟩ := DataW.trod_int Try.underlying5 hy0
  obtain ⟨k1, g1, _, w1⟩ := DataW.trod_int Try.underlying5 hy1
  obtain ⟨k2, g2, _, w2⟩ := DataW.trod_int Try.underlying5 hy2
  simp at g0 g1 g2
  subst g0 g1 g2
  obtain ⟨fuel2, hf2⟩ := h2
  obtain ⟨y3, y4, y5, m2, _, hy3, hy4, hy5⟩ := trod_array3 Try.underlying22 Try.cellsByte hf2
  obtain ⟨k3, g3, _, w3⟩ := DataW.trod_int Try.underlying5 hy3
  obtain ⟨k4, g4, _, w4⟩ := DataW.trod_int Try.underlying5 hy4
  obtain ⟨k5, g5, _, w5⟩ := DataW.trod_int Try.underlying5 hy5
  simp at g3 g4 g5
  subst g3 g4 g5
  obtain ⟨j0, rfl, i0⟩ := nat_of_u8 w0
  obtain ⟨j1, rfl, i1⟩ := nat_of_u8 w1
  obtain ⟨j2, rfl, i2⟩ := nat_of_u8 w2
  obtain ⟨j3, rfl, i3⟩ := nat_of_u8 w3
  obtain ⟨j4, rfl, i4⟩ := nat_of_u8 w4
  obtain ⟨j5, rfl, i5⟩ := nat_of_u8 w5
  obtain ⟨ao, len, cap, rfl⟩ := okWide_slice Try.underlying39 (hval 1 39 v1 rfl rfl)
  obtain ⟨fuel1, hf1⟩ := h1
  have hrow : len ≤ 281474976710656 ∧ ∀ i, i < len → ∃ a, ao = some a ∧ ∃ z : Int, W.cell? (a.add i) = some (.int .i16 z) ∧ (Lit.int .i16 z).wf = true := by
    rcases Go.Deep.open_slice Try.underlying39 hf1 with ⟨e, _⟩ | ⟨a, len', cap', mm, n, D, Pl, e, _, hl, hm, hmm, hx, hel⟩
    · simp [Value.cells] at e
      obtain ⟨rfl, rfl, rfl⟩ := e
      exact ⟨by omega, fun i hi => by omega⟩
    · simp [Value.cells] at e
      obtain ⟨rfl, rfl, rfl⟩ := e
      simp only [Prod.mk.injEq] at hx
      obtain ⟨rfl, rfl⟩ := hx
      have := sized_slice hsz (j := 1) (t := 39) (e := 50) rfl rfl Try.underlying39
      rw [Try.bytesShort] at this
      simp only [List.length_map, List.length_range, reachBytes] at this
      refine ⟨by omega, fun i hi => ⟨a, rfl, ?_⟩⟩
      obtain ⟨cs', q1, q2⟩ := hel i (by rw [hmm]; simp; omega)
      rw [Try.cellsShort] at q1
      exact short_cell q1 q2
  refine (wholeTransforms_any j0 j1 j2 j3 j4 j5 ao len cap W i0 i1 i2 i3 i4 i5 hrow.1 hrow.2).mono fun e W' ⟨he, bel⟩ => ?_
  subst he
  exact ⟨_, rfl, _, _, _, [], _, [], hW', trodAll_mk1 (shut_bool Try.underlying4 _), (trodAll_mk3 (Below.trod Try.laidOut (by kernel_rfl) (of_decide_eq_true (by kernel_rfl)) h0k bel lt0) (Below.trod Try.laidOut (by kernel_rfl) (of_decide_eq_true (by kernel_rfl)) h1k bel lt1) (Below.trod Try.laidOut (by kernel_rfl) (of_decide_eq_true (by kernel_rfl)) h2k bel lt2)), rfl, bel.frame _, fun h => by cases h⟩

/-- THE STATEMENT. -/
theorem wholeTransforms_holds : Rows.WholeTransformsSaid :=
  OpenClaim.holds_of_wide 4 Try.f4 rfl rfl rfl rfl rfl rfl rfl ⟨rfl, rfl, rfl, rfl, rfl⟩ rfl rfl rfl rfl rfl (by kernel_rfl) Try.func4 (by kernel_rfl)
    (of_decide_eq_true (by kernel_rfl)) (by unfold Func.isWrapper; first | (rw [if_pos (by decide +kernel)]; kernel_rfl) | (rw [if_neg (by decide +kernel)]; exact ⟨rfl, rfl⟩))
    (fun os started H enc _ => wholeTransforms_lifted os started H enc)

end Go.Proofs.Ytdeigbbilcjgjaa
