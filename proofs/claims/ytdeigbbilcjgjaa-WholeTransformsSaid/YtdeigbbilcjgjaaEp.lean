/-
  Whatever the sides and the numbers, the law 'FftExactly' answers true, and its arguments read behind the call as they did.
-/
import Derived.Test.YtdeigbbilcjgjaaRows
import Derived.Test.YtdeigbbilcjgjaaEd
import Derived.ProofKit
import Derived.SizedLaws
import Derived.OpenShut
import Derived.Deep.Slices
import Derived.Laws.IdiomArrays
namespace Go.Proofs.Ytdeigbbilcjgjaa
open Go.ChangeShapes Go.WideShapes Go.ChangeAt Go.RowKit
set_option linter.unusedVariables false
set_option linter.unusedSimpArgs false

theorem Try.own : ownKnob Try.prog.godebug = none := by kernel_rfl
theorem Try.laidOut : laidOutB Try.prog = true := by kernel_rfl
theorem Try.cellsByte : Try.prog.cellsOf 5 = 1 := by kernel_rfl
theorem Try.cellsShort : Try.prog.cellsOf 50 = 1 := by kernel_rfl
theorem Try.cellsPair : Try.prog.cellsOf 51 = 2 := by kernel_rfl
theorem Try.cellsSides : Try.prog.cellsOf 22 = 3 := by kernel_rfl
theorem Try.bytesPair : Try.prog.bytesOf 51 = 4 := by kernel_rfl

/-- What an element of a row of pairs is. -/
theorem pair_cells {H : Type} {enc : TypeId × Value → H} {w : World} {base : Nat} {spare : Nat → Bool} {held : Bool} {n : Nat} {a : Addr} {i : Nat} {x : DataW H × List MemPlace} {cs : List Value}
    (h1 : w.cells? base (a.add (i * 2)) 2 = some cs) (h2 : DataW.trod enc Try.prog w base spare held n 51 cs = some x) :
    ∃ p : Int × Int, w.cell? (a.add (i * 2)) = some (.int .i16 p.1) ∧ w.cell? (a.add (i * 2 + 1)) = some (.int .i16 p.2) ∧ (Lit.int .i16 p.1).wf = true ∧ (Lit.int .i16 p.2).wf = true := by
  obtain ⟨_, hl, hc⟩ := World.cells?_some h1
  match cs, hl with
  | [c0, c1], _ =>
    obtain ⟨xs, m, _, _, _, _, hel⟩ := DataW.trod_array Try.underlying51 h2
    have e0 := hel 0 (by omega)
    have e1 := hel 1 (by omega)
    rw [Try.cellsShort] at e0 e1
    have f0 : ∃ y, DataW.trod enc Try.prog w base spare held m 50 [c0] = some y := by
      cases hx : xs[0]? with
      | none => have := List.getElem?_eq_none_iff.1 hx; omega
      | some y => rw [hx] at e0; exact ⟨y, by simpa using e0⟩
    have f1 : ∃ y, DataW.trod enc Try.prog w base spare held m 50 [c1] = some y := by
      cases hx : xs[1]? with
      | none => have := List.getElem?_eq_none_iff.1 hx; omega
      | some y => rw [hx] at e1; exact ⟨y, by simpa using e1⟩
    obtain ⟨y0, g0⟩ := f0
    obtain ⟨y1, g1⟩ := f1
    obtain ⟨x0, q0, _, w0⟩ := DataW.trod_int Try.underlying50 g0
    obtain ⟨x1, q1, _, w1⟩ := DataW.trod_int Try.underlying50 g1
    have k0 := hc 0 (by omega)
    have k1 := hc 1 (by omega)
    rw [Go.Deep.add_add] at k0 k1
    simp at q0 q1
    subst q0 q1
    exact ⟨(x0, x1), by simpa using k0, by simpa using k1, w0, w1⟩

theorem addr_add (b off k : Nat) : (⟨b, off, none⟩ : Addr).add k = ⟨b, off + k, none⟩ := by
  cases k <;> simp [Addr.add]
theorem list3 {α : Type} (l : List α) (h : l.length = 3) : ∃ a b c, l = [a, b, c] := by
  match l, h with
  | [a, b, c], _ => exact ⟨a, b, c, rfl⟩

theorem side_of (k : Int) : ∃ n : Nat, ((k % 3 = 0 ∧ n = 1) ∨ (k % 3 = 1 ∧ n = 2) ∨ (k % 3 = 2 ∧ n = 4)) ∧ N4 n := by
  rcases (by omega : k % 3 = 0 ∨ k % 3 = 1 ∨ k % 3 = 2) with h | h | h
  · exact ⟨1, Or.inl ⟨h, rfl⟩, Or.inl rfl⟩
  · exact ⟨2, Or.inr (Or.inl ⟨h, rfl⟩), Or.inr (Or.inl rfl)⟩
  · exact ⟨4, Or.inr (Or.inr ⟨h, rfl⟩), Or.inr (Or.inr rfl)⟩

theorem sides_of {n0 n1 n2 : Nat} (a0 : N4 n0) (a1 : N4 n1) (a2 : N4 n2) : Sides n0 n1 n2 := by
  rcases a0 with rfl | rfl | rfl <;> rcases a1 with rfl | rfl | rfl <;> rcases a2 with rfl | rfl | rfl <;> constructor <;> decide

/-- THE WALK: true, and all that was there is as it was. -/
theorem fftExactly_any (k0 k1 k2 : Int) (ao : Option Addr) (len cap : Nat) (w : World) (c0 : 0 ≤ k0) (c1 : 0 ≤ k1) (c2 : 0 ≤ k2) (hmm : len ≤ 281474976710656)
    (hx : ∀ i, i < len → ∃ a, ao = some a ∧ ∃ p : Int × Int, w.cell? (a.add (i * 2)) = some (.int .i16 p.1) ∧ w.cell? (a.add (i * 2 + 1)) = some (.int .i16 p.2) ∧ (Lit.int .i16 p.1).wf = true ∧ (Lit.int .i16 p.2).wf = true) :
    Calls Try.prog 3 #[.agg #[.int .u8 k0, .int .u8 k1, .int .u8 k2], .slice ao len cap] w fun e w' => e = .returned (.bool true) ∧ Bel w w' := by
  obtain ⟨n0, e0, a0⟩ := side_of k0
  obtain ⟨n1, e1, a1⟩ := side_of k1
  obtain ⟨n2, e2, a2⟩ := side_of k2
  have hx' : ∀ i, ∃ p : Int × Int, i < len → ∃ a, ao = some a ∧ w.cell? (a.add (i * 2)) = some (.int .i16 p.1) ∧ w.cell? (a.add (i * 2 + 1)) = some (.int .i16 p.2) ∧ (Lit.int .i16 p.1).wf = true ∧ (Lit.int .i16 p.2).wf = true := by
    intro i
    by_cases h : i < len
    · obtain ⟨a, ha, p, hp⟩ := hx i h
      exact ⟨p, fun _ => ⟨a, ha, hp⟩⟩
    · exact ⟨(0, 0), fun h' => absurd h' h⟩
  obtain ⟨f, hf⟩ := Classical.skolem.1 hx'
  have hvl : ((List.range len).map f).length = len := by simp
  have hvg : ∀ i, i < len → ((List.range len).map f).getD i (0, 0) = f i := fun i hi => by simp [hi]
  obtain ⟨b, off, hao⟩ : ∃ b off, 0 < len → ao = some ⟨b, off, none⟩ := by
    by_cases h : 0 < len
    · obtain ⟨a, ha, h1, _⟩ := hf 0 h
      obtain ⟨b, off, spot⟩ := a
      have hs : spot = none := by simpa [Addr.add] using World.cell?_spot h1
      subst hs
      exact ⟨b, off, fun _ => ha⟩
    · exact ⟨0, 0, fun h' => absurd h' h⟩
  obtain ⟨va, vb, vc, vd, H⟩ := exact_law a0 a1 a2 ((List.range len).map f) (by
    intro i hi
    rw [hvl] at hi
    rw [hvg i hi]
    obtain ⟨a, _, _, _, w0, w1⟩ := hf i hi
    have := bounds_i16 w0
    have := bounds_i16 w1
    omega)
  refine exactly_walk b off cap n0 n1 n2 (n0 * n1 * n2) k0 k1 k2 ((List.range len).map f) va vb vc vd w e0 e1 e2 c0 c1 c2 rfl (sides_of a0 a1 a2) ao len hvl hmm ?_ H
  intro i hi
  rw [hvg i hi]
  have ha := hao (by omega)
  obtain ⟨a, h1, h2, h3, _⟩ := hf i hi
  rw [ha] at h1
  cases h1
  rw [addr_add] at h2 h3
  exact ⟨ha, h2, by rw [Nat.add_assoc]; exact h3⟩

set_option maxHeartbeats 4000000 in
set_option maxRecDepth 100000 in
theorem fftExactly_lifted (os : Os) (started : os.Started) (H : Type) (enc : TypeId × Value → H) :
    ReturnsInHanded {} Try.checked os 3 .any (Rows.fftExactlySpec.pre6 enc Try.prog Try.f3 Rows.fftExactlyRow.domain false) (Rows.fftExactlySpec.post enc Try.prog Try.f3 false true false false) := by
  refine returnsInHanded_of_change_sized (C := Try.checked) Try.own started (by kernel_rfl) Try.func3
    (ChangeSpec.witness6 (enc := enc) (C := Try.checked) false ⟨#[], #[.agg #[.int .u8 0, .int .u8 0, .int .u8 0], .slice none 0 0], []⟩ 8 (by kernel_rfl) (by kernel_rfl) (by kernel_rfl) (by kernel_rfl)) ?_
  intro W base args ds gs before hval0 hW _ hsz0 _
  have hsz : (DataW.weightsEach Try.prog (Try.f3.params.toList ++ Rows.fftExactlySpec.plain.varTypes Try.prog) (ds ++ gs)).all (· ≤ reachBytes) = true := hsz0
  clear hsz0
  have hval : ∀ (j : Nat) t v, Try.f3.params[j]? = some t → args[j]? = some v → Value.okWide Try.prog W .any base t v := hval0
  have hW' := hW
  obtain ⟨p, q, hA0, hV, rfl, hfz, hnd⟩ := hW
  have hA : DataW.TrodAll enc Try.prog W 0 (fun _ => true) true Try.f3.params.toList args.toList ds p := hA0
  rw [Try.params3] at hA hval hsz
  obtain ⟨v0, v1, d0, d1, p0, p1, rfl, rfl, rfl, h0, h1⟩ := trodAll_two hA
  obtain ⟨rfl, rfl⟩ := trodVars_none hV
  clear hA0 hval0
  simp only [List.append_nil] at hW'
  have h0k := h0
  have h1k := h1
  have lt0 : ∀ x ∈ p0, x.block < W.heap.size := fun x hx => by simpa using hW'.lt x (List.mem_append_left _ hx)
  have lt1 : ∀ x ∈ p1, x.block < W.heap.size := fun x hx => by simpa using hW'.lt x (List.mem_append_right _ hx)
  obtain ⟨cs, rfl, hcs, _⟩ : ∃ cs, v0 = .agg cs ∧ cs.size = Try.prog.cellsOf 22 ∧ Row.okWide Try.prog W .any base 22 cs := by
    have := hval 0 22 v0 rfl rfl
    simpa [Value.okWide, Try.underlying22] using this
  rw [Try.cellsSides] at hcs
  obtain ⟨l⟩ := cs
  obtain ⟨x0, x1, x2, rfl⟩ := list3 l (by simpa using hcs)
  obtain ⟨fuel, hf⟩ := h0
  obtain ⟨y0, y1, y2, m, _, hy0, hy1, hy2⟩ := trod_array3 Try.underlying22 Try.cellsByte hf
  obtain ⟨k0, g0, _, w0⟩ := DataW.trod_int Try.underlying5 hy0
  obtain ⟨k1, g1, _, w1⟩ := DataW.trod_int Try.underlying5 hy1
  obtain ⟨k2, g2, _, w2⟩ := DataW.trod_int Try.underlying5 hy2
  simp at g0 g1 g2
  subst g0 g1 g2
  obtain ⟨ao, len, cap, rfl⟩ := okWide_slice Try.underlying23 (hval 1 23 v1 rfl rfl)
  obtain ⟨fuel1, hf1⟩ := h1
  have hrow : len ≤ 281474976710656 ∧ ∀ i, i < len → ∃ a, ao = some a ∧ ∃ p : Int × Int, W.cell? (a.add (i * 2)) = some (.int .i16 p.1) ∧ W.cell? (a.add (i * 2 + 1)) = some (.int .i16 p.2) ∧ (Lit.int .i16 p.1).wf = true ∧ (Lit.int .i16 p.2).wf = true := by
    rcases Go.Deep.open_slice Try.underlying23 hf1 with ⟨e, _⟩ | ⟨a, len', cap', mm, n, D, Pl, e, _, hl, hm, hmm, hx, hel⟩
    · simp [Value.cells] at e
      obtain ⟨rfl, rfl, rfl⟩ := e
      exact ⟨by omega, fun i hi => by omega⟩
    · simp [Value.cells] at e
      obtain ⟨rfl, rfl, rfl⟩ := e
      simp only [Prod.mk.injEq] at hx
      obtain ⟨rfl, rfl⟩ := hx
      have := sized_slice hsz (j := 1) (t := 23) (e := 51) rfl rfl Try.underlying23
      rw [Try.bytesPair] at this
      simp only [List.length_map, List.length_range, reachBytes] at this
      refine ⟨by omega, fun i hi => ⟨a, rfl, ?_⟩⟩
      obtain ⟨cs', q1, q2⟩ := hel i (by rw [hmm]; simp; omega)
      rw [Try.cellsPair] at q1
      exact pair_cells q1 q2
  refine (fftExactly_any k0 k1 k2 ao len cap W (bounds_u8 w0).1 (bounds_u8 w1).1 (bounds_u8 w2).1 hrow.1 hrow.2).mono fun e W' ⟨he, bel⟩ => ?_
  subst he
  exact ⟨_, rfl, _, _, _, [], _, [], hW', trodAll_mk1 (shut_bool Try.underlying4 _), (trodAll_mk2 (Below.trod Try.laidOut (by kernel_rfl) (of_decide_eq_true (by kernel_rfl)) h0k bel lt0) (Below.trod Try.laidOut (by kernel_rfl) (of_decide_eq_true (by kernel_rfl)) h1k bel lt1)), rfl, bel.frame _, fun h => by cases h⟩

/-- THE STATEMENT. -/
theorem fftExactly_holds : Rows.FftExactlySaid :=
  OpenClaim.holds_of_wide 3 Try.f3 rfl rfl rfl rfl rfl rfl rfl ⟨rfl, rfl, rfl, rfl, rfl⟩ rfl rfl rfl rfl rfl (by kernel_rfl) Try.func3 (by kernel_rfl)
    (of_decide_eq_true (by kernel_rfl)) (by unfold Func.isWrapper; first | (rw [if_pos (by decide +kernel)]; kernel_rfl) | (rw [if_neg (by decide +kernel)]; exact ⟨rfl, rfl⟩))
    (fun os started H enc _ => fftExactly_lifted os started H enc)

end Go.Proofs.Ytdeigbbilcjgjaa
