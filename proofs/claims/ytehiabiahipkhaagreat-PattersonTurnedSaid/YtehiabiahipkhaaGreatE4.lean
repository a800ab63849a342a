/-
  Whatever the bytes and the numbers, the law 'PattersonLaws' answers true, and its arguments read behind the call as they did.
-/
import Derived.Test.YtehiabiahipkhaaGreatD4
import Derived.Test.YtehiabiahipkhaaGreatE3
namespace Go.Proofs.YtehiabiahipkhaaGreat
open Go.ChangeShapes Go.WideShapes Go.ChangeAt Go.RowKit
set_option linter.unusedVariables false
set_option linter.unusedSimpArgs false

theorem Tryz.cellsByte : Tryz.prog.cellsOf 5 = 1 := by kernel_rfl
theorem Tryz.cellsShort : Tryz.prog.cellsOf 54 = 1 := by kernel_rfl
theorem Tryz.cellsSides : Tryz.prog.cellsOf 48 = 3 := by kernel_rfl
theorem Tryz.cellsShorts : Tryz.prog.cellsOf 49 = 1 := by kernel_rfl
theorem list3 {α : Type} (l : List α) (h : l.length = 3) : ∃ a b c, l = [a, b, c] := by
  match l, h with
  | [a, b, c], _ => exact ⟨a, b, c, rfl⟩
theorem nat_of_u8 {k : Int} (h : (Lit.int .u8 k).wf = true) : ∃ n : Nat, k = n ∧ n < 256 := by
  have := bounds_u8 h
  exact ⟨k.toNat, by omega, by omega⟩

set_option maxHeartbeats 2000000 in
set_option maxRecDepth 100000 in
/-- Three bytes that read. -/
theorem open_bytes {H : Type} {enc : TypeId × Value → H} {w : World} {base : Nat} {spare : Nat → Bool} {held : Bool} {r : Reach} {b0 : Nat} {v : Value} {d : DataW H} {p : List MemPlace}
    (hv : Value.okWide Tryz.prog w r b0 48 v) (h : DataW.Trod enc Tryz.prog w base spare held 48 v d p) :
    ∃ k0 k1 k2 : Nat, v = byteV k0 k1 k2 ∧ k0 < 256 ∧ k1 < 256 ∧ k2 < 256 := by
  obtain ⟨cs, rfl, hcs, _⟩ : ∃ cs, v = .agg cs ∧ cs.size = Tryz.prog.cellsOf 48 ∧ Row.okWide Tryz.prog w r b0 48 cs := by
    simpa [Value.okWide, Tryz.underlying48] using hv
  rw [Tryz.cellsSides] at hcs
  obtain ⟨l⟩ := cs
  obtain ⟨x0, x1, x2, rfl⟩ := list3 l (by simpa using hcs)
  obtain ⟨fuel, hf⟩ := h
  obtain ⟨y0, y1, y2, m, _, hy0, hy1, hy2⟩ := trod_array3 Tryz.underlying48 Tryz.cellsByte hf
  obtain ⟨k0, g0, _, w0⟩ := DataW.trod_int Tryz.underlying5 hy0
  obtain ⟨k1, g1, _, w1⟩ := DataW.trod_int Tryz.underlying5 hy1
  obtain ⟨k2, g2, _, w2⟩ := DataW.trod_int Tryz.underlying5 hy2
  simp at g0 g1 g2
  subst g0 g1 g2
  obtain ⟨j0, rfl, i0⟩ := nat_of_u8 w0
  obtain ⟨j1, rfl, i1⟩ := nat_of_u8 w1
  obtain ⟨j2, rfl, i2⟩ := nat_of_u8 w2
  exact ⟨j0, j1, j2, rfl, i0, i1, i2⟩

set_option maxHeartbeats 2000000 in
set_option maxRecDepth 100000 in
/-- A slice of int16 that reads. -/
theorem open_shorts {H : Type} {enc : TypeId × Value → H} {w : World} {base : Nat} {spare : Nat → Bool} {held : Bool} {r : Reach} {b0 : Nat} {v : Value} {d : DataW H} {p : List MemPlace}
    (hv : Value.okWide Tryz.prog w r b0 49 v) (h : DataW.Trod enc Tryz.prog w base spare held 49 v d p) :
    ∃ (ao : Option Addr) (m cap : Nat) (xs : Nat → Int), v = .slice ao m cap ∧ Shorts w ao m xs := by
  obtain ⟨ao, len, cap, rfl⟩ := okWide_slice Tryz.underlying49 hv
  obtain ⟨fuel, hf⟩ := h
  rcases Go.Deep.open_slice Tryz.underlying49 hf with ⟨e, _⟩ | ⟨a, len', cap', mm, n, D, Pl, e, _, hl, hm, hmm, hx, hel⟩
  · simp [Value.cells] at e
    obtain ⟨rfl, rfl, rfl⟩ := e
    exact ⟨none, 0, 0, fun _ => 0, rfl, fun i hi => absurd hi (by omega)⟩
  · simp [Value.cells] at e
    obtain ⟨rfl, rfl, rfl⟩ := e
    have hmle : len ≤ mm := by rw [hmm]; split <;> omega
    have hx' : ∀ i, ∃ z : Int, i < len → w.cell? (a.add i) = some (.int .i16 z) ∧ -32768 ≤ z ∧ z ≤ 32767 := by
      intro i
      by_cases h : i < len
      · obtain ⟨cs', q1, q2⟩ := hel i (by omega)
        rw [Tryz.cellsShort] at q1
        obtain ⟨_, hl', hc⟩ := World.cells?_some q1
        match cs', hl' with
        | [c0], _ =>
          obtain ⟨x0, q0, _, w0⟩ := DataW.trod_int Tryz.underlying54 q2
          have k0 := hc 0 (by omega)
          rw [Go.Deep.add_add] at k0
          simp at q0
          subst q0
          exact ⟨x0, fun _ => ⟨by simpa using k0, bounds_i16 w0⟩⟩
      · exact ⟨0, fun h' => absurd h' h⟩
    obtain ⟨f, hf'⟩ := Classical.skolem.1 hx'
    refine ⟨some a, len, cap, f, rfl, fun i hi => ?_⟩
    obtain ⟨h1, h2⟩ := hf' i hi
    obtain ⟨b, off, spot⟩ := a
    have hs : spot = none := by simpa [Addr.add] using World.cell?_spot (hf' 0 (by omega)).1
    subst hs
    have hadd : ∀ k, (⟨b, off, none⟩ : Addr).add k = ⟨b, off + k, none⟩ := fun k => by cases k <;> simp [Addr.add]
    rw [hadd] at h1
    exact ⟨b, off, rfl, h1, h2⟩

set_option maxHeartbeats 4000000 in
set_option maxRecDepth 100000 in
theorem pattersonLaws_lifted (os : Os) (started : os.Started) (H : Type) (enc : TypeId × Value → H) :
    ReturnsInHanded {} Tryz.checked os 5 .any (Rows.pattersonLawsSpec.pre6 enc Tryz.prog Tryz.f5 Rows.pattersonLawsRow.domain false) (Rows.pattersonLawsSpec.post enc Tryz.prog Tryz.f5 false true false false) := by
  refine returnsInHanded_of_change_sized (C := Tryz.checked) Tryz.own started (by kernel_rfl) Tryz.func5
    (ChangeSpec.witness6 (enc := enc) (C := Tryz.checked) false ⟨#[], #[.agg #[.int .u8 0, .int .u8 0, .int .u8 0], .slice none 0 0, .agg #[.int .u8 0, .int .u8 0, .int .u8 0]], []⟩ 8 (by kernel_rfl) (by kernel_rfl) (by kernel_rfl) (by kernel_rfl)) ?_
  intro W base args ds gs before hval0 hW _ hsz0 _
  have hval : ∀ (j : Nat) t v, Tryz.f5.params[j]? = some t → args[j]? = some v → Value.okWide Tryz.prog W .any base t v := hval0
  have hW' := hW
  obtain ⟨p, q, hA0, hV, rfl, hfz, hnd⟩ := hW
  have hA : DataW.TrodAll enc Tryz.prog W 0 (fun _ => true) true Tryz.f5.params.toList args.toList ds p := hA0
  rw [Tryz.params5] at hA hval
  obtain ⟨v0, v1, v2, e0, e1, e2, p0, p1, p2, rfl, rfl, rfl, h0, h1, h2⟩ := trodAll_three hA
  obtain ⟨rfl, rfl⟩ := trodVars_none hV
  clear hA0 hval0 hsz0
  simp only [List.append_nil] at hW'
  have h0k := h0
  have h1k := h1
  have h2k := h2
  have lt0 : ∀ x ∈ p0, x.block < W.heap.size := fun x hx => by simpa using hW'.lt x (by simp [hx])
  have lt1 : ∀ x ∈ p1, x.block < W.heap.size := fun x hx => by simpa using hW'.lt x (by simp [hx])
  have lt2 : ∀ x ∈ p2, x.block < W.heap.size := fun x hx => by simpa using hW'.lt x (by simp [hx])
  obtain ⟨k0, k1, k2, rfl, hk⟩ := open_bytes (hval 0 48 v0 rfl rfl) h0
  obtain ⟨ao, m, cap, xs, rfl, hxs⟩ := open_shorts (hval 1 49 v1 rfl rfl) h1
  obtain ⟨u0, u1, u2, rfl, hu⟩ := open_bytes (hval 2 48 v2 rfl rfl) h2
  refine (laws_walk awake_any k0 k1 k2 u0 u1 u2 m cap ao xs W hk hu hxs).mono fun e W' ⟨he, bel⟩ => ?_
  subst he
  exact ⟨_, rfl, _, _, _, [], _, [], hW', trodAll_mk1 (shut_bool Tryz.underlying4 _), (trodAll_mk3 (Below.trod Tryz.laidOut (by kernel_rfl) (of_decide_eq_true (by kernel_rfl)) h0k bel lt0) (Below.trod Tryz.laidOut (by kernel_rfl) (of_decide_eq_true (by kernel_rfl)) h1k bel lt1) (Below.trod Tryz.laidOut (by kernel_rfl) (of_decide_eq_true (by kernel_rfl)) h2k bel lt2)), rfl, bel.frame _, fun h => by cases h⟩

/-- THE STATEMENT. -/
theorem pattersonLaws_holds : Rows.PattersonLawsSaid :=
  OpenClaim.holds_of_wide 5 Tryz.f5 rfl rfl rfl rfl rfl rfl rfl ⟨rfl, rfl, rfl, rfl, rfl⟩ rfl rfl rfl rfl rfl (by kernel_rfl) Tryz.func5 (by kernel_rfl)
    (of_decide_eq_true (by kernel_rfl)) (by unfold Func.isWrapper; first | (rw [if_pos (by decide +kernel)]; kernel_rfl) | (rw [if_neg (by decide +kernel)]; exact ⟨rfl, rfl⟩))
    (fun os started H enc _ => pattersonLaws_lifted os started H enc)

end Go.Proofs.YtehiabiahipkhaaGreat
