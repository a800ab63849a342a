/-
  Plain words: complex numbers as pairs of bits; the sums and products that the program makes of them, as functions that answer nothing where a NaN would be.
  Memory that a call makes: rows of one-cell elements, read as lists; a class of worlds in which whatever was there is as it was.
-/
import Derived.Laws.ComplexArith
import Derived.KernelRfl
import Derived.WalkKit
import Derived.Laws.CopyOwn
import Derived.Laws.OwnMore
namespace Go.Proofs.YtehiabiahipkhaaGreat

/-- A complex128 as the bits of its parts. -/
abbrev C := Nat × Nat

def fAdd (x y : Nat) : Option Nat := floatBits .add .f64 x y
def fSub (x y : Nat) : Option Nat := floatBits .sub .f64 x y
def fMul (x y : Nat) : Option Nat := floatBits .mul .f64 x y
def fDiv (x y : Nat) : Option Nat := floatBits .quo .f64 x y

def cAdd (a b : C) : Option C := cSumBits .add .f64 a.1 a.2 b.1 b.2
def cSub (a b : C) : Option C := cSumBits .sub .f64 a.1 a.2 b.1 b.2

/-- The product as cplx.Mul makes it. -/
def cMul (a b : C) : Option C :=
  (fMul a.1 b.1).bind fun ac => (fMul a.2 b.2).bind fun bd => (fSub ac bd).bind fun re =>
  (fMul a.1 b.2).bind fun ad => (fMul a.2 b.1).bind fun bc => (fAdd ad bc).bind fun im => some (re, im)

/-- Both parts over a number. -/
def divC (n : Nat) (c : C) : Option C := (fDiv c.1 n).bind fun x => (fDiv c.2 n).bind fun y => some (x, y)

/-- The bits with the sign turned. -/
def fNeg (x : Nat) : Nat := Op.negFloat .f64 x

abbrev cVal (c : C) : Value := .complex .f64 c.1 c.2

@[go_sem] theorem unary_neg_f64 (b : Nat) : Op.unary .neg (.float .f64 b) = pure (.float .f64 (fNeg b)) := rfl

@[go_sem] theorem run_store_complex (P : Program) (w : World) (a : Addr) (m : Mode) (k : FloatKind) (x y : Nat) : (store a (.complex k x y) m).run P w = stored P w a (.complex k x y) m := run_store P w a _ m rfl
@[go_sem] theorem run_store_float (P : Program) (w : World) (a : Addr) (m : Mode) (k : FloatKind) (x : Nat) : (store a (.float k x) m).run P w = stored P w a (.float k x) m := run_store P w a _ m rfl

/-- The bits of the cosines of 0 to 47 of 192 parts of a turn. -/
def cosList : List Int := [
    0x3ff0000000000000, 0x3feffb9d2897136e, 0x3fefee75d62a9c46, 0x3fefd88da3d12526, 0x3fefb9ea92ec689b, 0x3fef92950983df6b,
    0x3fef6297cff75cb0, 0x3fef2a000e0a5970, 0x3feee8dd4748bf15, 0x3fee9f4156c62dda, 0x3fee4d406a38e9ab, 0x3fedf2f0fc71c4e5,
    0x3fed906bcf328d46, 0x3fed25cbe464ab60, 0x3fecb32e76b1d0f4, 0x3fec38b2f180bdb1, 0x3febb67ae8584caa, 0x3feb2caa0dab2702,
    0x3fea9b66290ea1a3, 0x3fea02d70cdf74db, 0x3fe963268b572492, 0x3fe8bc806b151741, 0x3fe80f125b1e8028, 0x3fe75b0be65866fb,
    0x3fe6a09e667f3bcd, 0x3fe5dffcf69f89ed, 0x3fe5195c65137f0c, 0x3fe44cf325091dd6, 0x3fe37af93f9513ea, 0x3fe2a3a844564aa5,
    0x3fe1c73b39ae68c8, 0x3fe0e5ee8c939850, 0x3fe0000000000000, 0x3fde2b5d3806f63b, 0x3fdc4e7538f866fc, 0x3fda69cabef5b501,
    0x3fd87de2a6aea963, 0x3fd68b43c8f5832a, 0x3fd49276d5c7bb48, 0x3fd294062ed59f06, 0x3fd0907dc1930690, 0x3fcd10d5c1b71b7f,
    0x3fc8f8b83c69a60b, 0x3fc4d9c24572b693, 0x3fc0b5150f6da2d1, 0x3fb917a6bc29b42c, 0x3fb0be426d197a8b, 0x3fa0c08e3d596aee]

/-- The bits of the cosine of j of 192 parts of a turn, j below 192. -/
def cosB (j : Nat) : Nat :=
  let j := if 96 < j then 192 - j else j
  if j < 48 then (cosList.getD j 0).toNat else if 48 < j then fNeg (cosList.getD (96 - j) 0).toNat else 0

/-- j of 192 parts of a turn. -/
def tw (j : Nat) : C := (cosB (j % 192), cosB ((j + 144) % 192))

/-- The turn that a way (there, or back) takes for j of n parts. -/
def wy (back : Bool) (j : Int) (n : Nat) : C :=
  let c := tw ((j % n).toNat * (192 / n))
  if back then (c.1, fNeg c.2) else c

/-- k numbers of a list: every second one from a place on. -/
def partN (xs : List C) (from0 k : Nat) : List C := (List.range k).map fun i => xs.getD (from0 + 2 * i) (0, 0)

theorem partN_length (xs : List C) (f k : Nat) : (partN xs f k).length = k := by simp [partN]
theorem partN_succ (xs : List C) (f k : Nat) : partN xs f (k + 1) = partN xs f k ++ [xs.getD (f + 2 * k) (0, 0)] := by
  simp [partN, List.range_succ]

/-- The sum of the first k numbers, from the left, as it is rounded. -/
def csumN (xs : List C) : Nat → Option C
  | 0 => some (0, 0)
  | k + 1 => (csumN xs k).bind fun s => cAdd s (xs.getD k (0, 0))

theorem csumN_some {xs : List C} {n : Nat} {r : C} (h : csumN xs n = some r) : ∀ k, k ≤ n → ∃ s, csumN xs k = some s := by
  induction n generalizing r with
  | zero => intro k hk; obtain rfl : k = 0 := by omega
            exact ⟨_, h⟩
  | succ n ih =>
    intro k hk
    by_cases hkn : k = n + 1
    · subst hkn; exact ⟨_, h⟩
    · simp only [csumN, Option.bind_eq_some_iff] at h
      obtain ⟨s, hs, _⟩ := h
      exact ih hs k (by omega)

theorem csumN_step {xs : List C} {n : Nat} {r s : C} (h : csumN xs n = some r) (k : Nat) (hk : k < n) (hs : csumN xs k = some s) :
    ∃ s', csumN xs (k + 1) = some s' ∧ cAdd s (xs.getD k (0, 0)) = some s' := by
  obtain ⟨s', hs'⟩ := csumN_some h (k + 1) (by omega)
  refine ⟨s', hs', ?_⟩
  simp only [csumN, hs, Option.bind_some] at hs'
  exact hs'

end Go.Proofs.YtehiabiahipkhaaGreat

namespace Go.Proofs.YtehiabiahipkhaaGreat
open Go.RowKit
set_option linter.unusedVariables false
set_option linter.unusedSimpArgs false

/-- Whatever was there is as it was; there may be new blocks. -/
def Bel (w w' : World) : Prop := Below w.heap.size w w'

theorem Bel.refl (w : World) : Bel w w := Below.refl _ _
theorem Bel.size {w w' : World} (h : Bel w w') : w.heap.size ≤ w'.heap.size := Below.size h
theorem Bel.trans {a b c : World} (h : Bel a b) (k : Bel b c) : Bel a c := Below.trans h (Below.mono k h.size)
theorem Bel.cell {w w' : World} (h : Bel w w') {p : Addr} (hp : p.block < w.heap.size) : w'.cell? p = w.cell? p := Below.cell h hp
theorem Bel.frozen {w w' : World} (h : Bel w w') {p : Addr} (hp : p.block < w.heap.size) : w'.frozen? p = w.frozen? p := Below.frozen h hp
theorem Bel.alloc {a w : World} (h : Bel a w) (o : Obj) : Bel a (w.alloc o) := Below.alloc h h.size o
theorem Bel.drew {a w : World} (h : Bel a w) : Bel a w.drew := Below.drew h
theorem Bel.setCell {a w : World} (h : Bel a w) {p : Addr} (hp : a.heap.size ≤ p.block) (u : Value) : Bel a (w.setCell p u) := Below.setCell h hp u
theorem Bel.setRow {a w : World} (h : Bel a w) {g : Nat} (hg : a.heap.size ≤ g) (cs : Array Value) : Bel a (w.setRow g cs) := below_setRow h hg cs
theorem Bel.cellv {w w' : World} (h : Bel w w') {p : Addr} {v : Value} (hv : w.cell? p = some v) : w'.cell? p = some v :=
  (h.cell (World.block_lt_of_cell? w p hv)).trans hv
theorem Bel.grown {a w w' : World} {row : Option Nat} (h : Bel a w) (hg : w.grownBy w' row) (hr : ∀ k, row = some k → a.heap.size ≤ k) : Bel a w' :=
  Below.grown h hg h.size hr

/-- A contract that makes new blocks alone, told from an earlier world. -/
theorem callsFrom {P : Program} {f : FuncId} {args : Array Value} {w0 w : World} {R : Ending → World → Prop}
    (h : Calls P f args w fun e w' => R e w' ∧ Bel w w') (hb : Bel w0 w) : Calls P f args w fun e w' => R e w' ∧ Bel w0 w' :=
  h.mono fun _ _ ⟨a, b⟩ => ⟨a, hb.trans b⟩

/-- The slice at the head of block g, of capacity cap, holds these elements (each of one cell, written by f), in memory that may be written. -/
def Arr {α : Type} (T : TypeId) (f : α → Value) (w : World) (g cap : Nat) (xs : List α) : Prop :=
  w.ownsRow 0 T 1 (.slice (some ⟨g, 0, none⟩) xs.length cap) xs.length (xs.map f)

section
variable {α : Type} {T : TypeId} {f : α → Value} {w w' : World} {g cap : Nat} {xs : List α}

theorem Arr.lt (h : Arr T f w g cap xs) : g < w.heap.size := (World.ownsRow.lt h g rfl).2

theorem Arr.cell (h : Arr T f w g cap xs) {i : Nat} (hi : i < xs.length) (d : α) : w.cell? ⟨g, i, none⟩ = some (f (xs.getD i d)) := by
  rw [World.ownsRow.cellAt h i (by omega)]
  simp [List.getElem?_map, List.getElem?_eq_getElem hi, List.getD_eq_getElem?_getD]

theorem Arr.frozen (h : Arr T f w g cap xs) (i : Nat) : w.frozen? ⟨g, i, none⟩ = false := World.ownsRow.frozenAt h i

theorem Arr.store (h : Arr T f w g cap xs) (i : Nat) (c : α) : Arr T f (w.setCell ⟨g, i, none⟩ (f c)) g cap (xs.set i c) := by
  have := (World.ownsRow.stored h i (f c)).1
  unfold Arr
  rw [List.length_set, List.map_set]
  exact this

theorem Arr.kept (h : Arr T f w g cap xs) (hh : w'.heap[g]? = w.heap[g]?) : Arr T f w' g cap xs := by
  refine ⟨h.1, ?_⟩
  rcases h.2 with ⟨h', _⟩ | ⟨g', cap', cur, h', hb, hg, rest⟩
  · cases h'
  · simp only [Value.slice.injEq, Option.some.injEq, Addr.mk.injEq, and_true, true_and] at h'
    obtain ⟨rfl, rfl⟩ := h'
    exact .inr ⟨g, cap, cur, rfl, hb, by rw [hh]; exact hg, rest⟩

theorem Arr.bel (h : Arr T f w g cap xs) (hb : Bel w w') : Arr T f w' g cap xs := h.kept (hb.block g h.lt)

theorem Arr.alloc (h : Arr T f w g cap xs) (o : Obj) : Arr T f (w.alloc o) g cap xs := h.bel ((Bel.refl w).alloc o)
theorem Arr.drew (h : Arr T f w g cap xs) : Arr T f w.drew g cap xs := h.bel (Bel.refl w).drew
theorem Arr.setOther (h : Arr T f w g cap xs) {p : Addr} (hp : p.block ≠ g) (u : Value) : Arr T f (w.setCell p u) g cap xs :=
  h.kept (Below.heap_setCell _ _ _ _ (Ne.symm hp))
theorem Arr.ext (h : Arr T f w g cap xs) {ys : List α} (e : xs = ys) : Arr T f w g cap ys := e ▸ h

theorem Arr.of_own {base : Nat} (h : w.ownsRow base T 1 (.slice (some ⟨g, 0, none⟩) xs.length cap) xs.length (xs.map f)) : Arr T f w g cap xs := by
  refine ⟨h.1, ?_⟩
  rcases h.2 with ⟨h', _⟩ | ⟨g', cap', cur, h', hb, rest⟩
  · cases h'
  · exact .inr ⟨g', cap', cur, h', Nat.zero_le _, rest⟩
end

/-- What has been owned and is not empty begins at the head of a block. -/
theorem arr_of_own {α : Type} {T : TypeId} {f : α → Value} {w : World} {base : Nat} {v : Value} {n : Nat} {xs : List α} (h : w.ownsRow base T 1 v n (xs.map f)) (hn : n = xs.length) (h0 : 0 < n) :
    ∃ g cap, v = .slice (some ⟨g, 0, none⟩) xs.length cap ∧ base ≤ g ∧ Arr T f w g cap xs := by
  subst hn
  rcases h.2 with ⟨_, h'⟩ | ⟨g, cap, cur, rfl, hb, rest⟩
  · omega
  · exact ⟨g, cap, rfl, hb, Arr.of_own h⟩

/-- 'make([]T, n)'. -/
theorem wpList_make_arr {α : Type} {P : Program} (w : World) {ops : Array Oper} {rest : List Oper} {o : Oper} {a : Act} {Q : Exit → Act → World → Prop}
    (hg : o.guard = none) (l c : Operand) (t : TypeId) (hop : o.op = Op.makeSlice t l c)
    (e : TypeId) (i : TypeInfo) (f : α → Value) (a0 : α) (bytes : Nat) (h1 : P.underlying t = some (.slice e)) (h2 : P.info? e = some i) (h3 : i.zero = some (f a0)) (h4 : i.size = 1) (h5 : i.bytes = bytes) (h6 : (f a0).cells = #[f a0])
    (kl kc : IntKind) (L C : Int) (n : Nat) (hl : a.eval l = .int kl L) (hc : a.eval c = .int kc C) (hL : L = (n : Int)) (hC : C = (n : Int)) (b2 : bytes * n ≤ 281474976710656) (b3 : n ≤ 1000000000)
    (hK : ∀ w', Arr e f w' w.heap.size n (List.replicate n a0) → Bel w w' → wpList P ops Q rest (a.put o.dst (.slice (some ⟨w.heap.size, 0, none⟩) n n)) w') :
    wpList P ops Q (o :: rest) a w := by
  subst h5
  refine wpList_make_full w hg l c t hop 0 e i (f a0) 1 h1 h2 h3 h4 kl kc L C n hl hc hL hC b2 (by unfold maxLen; omega) (Nat.zero_le _) fun w' ho hgr => hK w' ?_ ((Bel.refl w).grown hgr (by simp))
  unfold Arr
  rw [List.length_replicate, List.map_replicate]
  rw [h6, Nat.mul_one, toList_madeCells_one] at ho
  exact ho

/-- 'append(v, y)' in a region that draws its order, v of the call's own. -/
theorem step_append_one {α : Type} {P : Program} {w : World} {ops : Array Oper} {o : Oper} {a : Act} {K : Act → World → Prop} {Q : Exit → Act → World → Prop} {E : Prop} (hgd : o.guard = none) (s x : Operand) (t : TypeId)
    (ho : o.op = .call { callee := .builtin .append, args := #[s, x], argTypes := #[t, t] })
    (e : TypeId) (i : TypeInfo) (f : α → Value) (z : Value) (bytes : Nat) (ht : P.underlying t = some (.slice e)) (hi : P.info? e = some i) (hz : i.zero = some z)
    (hsize : i.size = 1) (hby : i.bytes = bytes) (hzs : z.cells.size = 1)
    (v : Value) (n : Nat) (xs : List α) (hs : a.eval s = v) (w0 : World) (hown : w.ownsRow w0.heap.size e 1 v n (xs.map f)) (hb : Bel w0 w)
    (ad : Addr) (c : Nat) (y : α) (hx : a.eval x = .slice (some ad) 1 c) (hc : w.cell? ad = some (f y)) (h1 : (f y).oneCell' = true) (hn : n + 1 ≤ 1000000000) (hbytes : (n + 1) * bytes ≤ 140737488355328)
    (h : ∀ v' w', w'.ownsRow w0.heap.size e 1 v' (n + 1) ((xs ++ [y]).map f) → Bel w0 w' → K (a.put o.dst v') w') :
    if Region.wanted o (yielded ops a.tmps) = true then Oper.wp P o a w K Q else E := by
  have hw : Region.wanted o (yielded ops a.tmps) = true := by simp [Region.wanted, hgd]
  rw [if_pos hw]
  obtain ⟨v', w', hr, h2, h3, _⟩ := run_append_own (P := P) w w0.heap.size t o.type e i z 1 bytes ht hi hz hsize hby hzs (by omega) v n (xs.map f) hown ad 1 c [f y] rfl
    (fun j u hj => by
      match j, hj with
      | 0, hj => simp at hj; subst hj; exact hc
      | j + 1, hj => simp at hj) (fun u hu => by simp at hu; subst hu; exact h1) (by unfold maxLen; omega) hbytes hb.size
  unfold Oper.wp execOp
  simp only [ho, resolve, invoke, builtin, Sem.run_bind, Sem.run_pure, Result.andThen_ok, List.map_toArray, List.map_cons, List.map_nil, hs, hx, hr]
  refine h v' w' ?_ (hb.grown h3 fun k hk => (hown.lt k hk).1)
  rw [List.map_append]
  exact h2

theorem ownsRow_bel {w w' : World} {base : Nat} {e : TypeId} {v : Value} {n : Nat} {xs : List Value} (h : w.ownsRow base e 1 v n xs) (hb : Bel w w') : w'.ownsRow base e 1 v n xs := by
  refine ⟨h.1, ?_⟩
  rcases h.2 with hn | ⟨g, cap, cur, rfl, hbg, hg, rest⟩
  · exact .inl hn
  · exact .inr ⟨g, cap, cur, rfl, hbg, by rw [hb.block g (Array.getElem?_eq_some_iff.1 hg).1]; exact hg, rest⟩

/-- What owns n elements is a slice of length n. -/
theorem ownsRow_form {w : World} {base : Nat} {e : TypeId} {v : Value} {n : Nat} {xs : List Value} (h : w.ownsRow base e 1 v n xs) : ∃ ao cap, v = .slice ao n cap := by
  rcases h.2 with ⟨rfl, rfl⟩ | ⟨g, cap, cur, rfl, _⟩
  · exact ⟨_, _, rfl⟩
  · exact ⟨_, _, rfl⟩

/-- 'copy(v, src)', v of the call's own, as long as src. -/
theorem wpList_copy_arr {α : Type} {P : Program} {w : World} {ops : Array Oper} {rest : List Oper} {o : Oper} {a : Act} {Q : Exit → Act → World → Prop} (hgd : o.guard = none) (d s : Operand) (dT sT : TypeId)
    (ho : o.op = .call { callee := .builtin .copy, args := #[d, s], argTypes := #[dT, sT] }) (elem : TypeId) (hu : P.underlying dT = some (.slice elem)) (hsz : (P.info? elem).map (·.size) = some 1)
    (f : α → Value) (h1 : ∀ x, (f x).oneCell' = true) (d0 : α) (n g cap : Nat) (xs ys : List α) (hv : Arr elem f w g cap xs) (hxn : xs.length = n) (hyn : ys.length = n)
    (b off sCap : Nat) (hd : a.eval d = .slice (some ⟨g, 0, none⟩) n cap) (hs : a.eval s = .slice (some ⟨b, off, none⟩) n sCap)
    (hc : ∀ i, i < n → w.cell? ⟨b, off + i, none⟩ = some (f (ys.getD i d0))) (w0 : World) (hb : Bel w0 w) (hg : w0.heap.size ≤ g)
    (h : ∀ w', Arr elem f w' g cap ys → Bel w0 w' → wpList P ops Q rest (a.put o.dst (.int .i64 n)) w') :
    wpList P ops Q (o :: rest) a w := by
  rcases hv.2 with ⟨h', _⟩ | ⟨g', cap', cur, h', hb0, hgg, hnc, hcm, hcs, htake⟩
  · cases h'
  · simp only [Value.slice.injEq, Option.some.injEq, Addr.mk.injEq, and_true, true_and] at h'
    obtain ⟨rfl, rfl⟩ := h'
    rw [hxn] at hnc
    refine wpList_copy_splice hgd d s dT sT ho elem hu hsz _ _ _ _ _ _ hd hs g 0 cur.toList elem (by simpa using hgg) (ys.map f) (by simp [hyn]) ?_ (by simp [hyn]; omega) ?_ w0.heap.size w0 hb hg fun w' hh hb' => ?_
    · intro _
      refine ⟨rfl, _, rfl, fun j v hj => ?_⟩
      have hjn : j < n := by
        have := (List.getElem?_eq_some_iff.1 hj).1
        simpa [hyn] using this
      have hadd : (⟨b, off, none⟩ : Addr).add j = ⟨b, off + j, none⟩ := by unfold Addr.add; split <;> simp_all
      rw [hadd, hc j hjn, ← hj]
      simp [List.getD_eq_getElem?_getD, List.getElem?_eq_getElem (show j < ys.length by omega)]
    · intro v hv
      obtain ⟨x, _, rfl⟩ := List.mem_map.1 hv
      exact h1 x
    · have hr := h w' ?_ hb'
      · simpa [goInt, hyn] using hr
      · have hh' := hh.out
        unfold Arr
        rw [hyn]
        refine ⟨by simp [hyn], .inr ⟨g, cap, _, rfl, Nat.zero_le _, hh', hnc, hcm, ?_, ?_⟩⟩
        · simp [splice, hyn, hcs]; omega
        · simp [splice, hyn]

theorem size_alloc' (w : World) (o : Obj) : (w.alloc o).heap.size = w.heap.size + 1 := by show (w.heap.push o).size = _; simp
theorem cell_new (w : World) (cs : Array Value) (T : TypeId) (i : Nat) : (w.alloc (.cells cs T)).cell? ⟨w.heap.size, i, none⟩ = cs[i]? := cell_of_row _ _ _ _ _ _ (heap_alloc_new _ _)
theorem frozen_new (w : World) (cs : Array Value) (T : TypeId) (i : Nat) : (w.alloc (.cells cs T)).frozen? ⟨w.heap.size, i, none⟩ = false := frozen_of_row _ _ _ _ _ (heap_alloc_new _ _)
theorem cell_new2 (w : World) (o : Obj) (cs : Array Value) (T : TypeId) (i : Nat) : ((w.alloc o).alloc (.cells cs T)).cell? ⟨w.heap.size + 1, i, none⟩ = cs[i]? := by
  have := cell_new (w.alloc o) cs T i
  rwa [size_alloc'] at this
theorem frozen_new2 (w : World) (o : Obj) (cs : Array Value) (T : TypeId) (i : Nat) : ((w.alloc o).alloc (.cells cs T)).frozen? ⟨w.heap.size + 1, i, none⟩ = false := by
  have := frozen_new (w.alloc o) cs T i
  rwa [size_alloc'] at this

theorem cell_newN (w : World) (cs : Array Value) (T : TypeId) (i N : Nat) (hN : w.heap.size = N) : (w.alloc (.cells cs T)).cell? ⟨N, i, none⟩ = cs[i]? := by subst hN; exact cell_new _ _ _ _
theorem frozen_newN (w : World) (cs : Array Value) (T : TypeId) (i N : Nat) (hN : w.heap.size = N) : (w.alloc (.cells cs T)).frozen? ⟨N, i, none⟩ = false := by subst hN; exact frozen_new _ _ _ _

/-- What a cell holds. -/
def cellD (w : World) (p : Addr) : Value := (w.cell? p).getD undef
theorem cellD_eq {w : World} {p : Addr} {v : Value} (h : w.cell? p = some v) : w.cell? p = some (cellD w p) := by simp [cellD, h]

/-- The cells of a variable that was made as the second new block, in a later world. -/
theorem slot2 {w W : World} {o : Obj} {cs : Array Value} {T : TypeId} (h : Bel ((w.alloc o).alloc (.cells cs T)) W) (i : Nat) (hi : i < cs.size) :
    W.cell? ⟨w.heap.size + 1, i, none⟩ = some (cellD W ⟨w.heap.size + 1, i, none⟩) ∧ W.frozen? ⟨w.heap.size + 1, i, none⟩ = false := by
  have hv := cell_new2 w o cs T i
  have hf := frozen_new2 w o cs T i
  rw [Array.getElem?_eq_getElem hi] at hv
  exact ⟨cellD_eq (h.cellv hv), (h.frozen (World.block_lt_of_cell? _ _ hv)).trans hf⟩

/-- One cell that is read, one that is written. -/
theorem s3_bel {w0 w : World} {p q : Addr} {u : Value} (h : w0.cell? p = some u ∧ w0.cell? q = some (cellD w0 q) ∧ w0.frozen? q = false) (hb : Bel w0 w) :
    w.cell? p = some u ∧ w.cell? q = some (cellD w q) ∧ w.frozen? q = false := by
  have hl := World.block_lt_of_cell? w0 q h.2.1
  exact ⟨hb.cellv h.1, cellD_eq (hb.cellv h.2.1), by rw [hb.frozen hl]; exact h.2.2⟩
theorem s3_store {w : World} {p q : Addr} {u : Value} (h : w.cell? p = some u ∧ w.cell? q = some (cellD w q) ∧ w.frozen? q = false) (hne : p.block ≠ q.block) (v : Value) :
    (w.setCell q v).cell? p = some u ∧ (w.setCell q v).cell? q = some (cellD (w.setCell q v) q) ∧ (w.setCell q v).frozen? q = false := by
  refine ⟨?_, ?_, ?_⟩
  · rw [World.cell?_setCell_other w q p v (fun e => hne (by rw [e]))]; exact h.1
  · exact cellD_eq (World.cell?_setCell_same' w q v (by rw [h.2.1]; rfl))
  · simp [h.2.2]

/-- One cell that is read, two that are written. -/
def S5 (p q1 q2 : Addr) (u : Value) (w : World) : Prop :=
  w.cell? p = some u ∧ (w.cell? q1 = some (cellD w q1) ∧ w.frozen? q1 = false) ∧ w.cell? q2 = some (cellD w q2) ∧ w.frozen? q2 = false
theorem S5.bel {w0 w : World} {p q1 q2 : Addr} {u : Value} (h : S5 p q1 q2 u w0) (hb : Bel w0 w) : S5 p q1 q2 u w := by
  have a := s3_bel ⟨h.1, h.2.1⟩ hb
  have b := s3_bel ⟨h.1, h.2.2⟩ hb
  exact ⟨a.1, a.2, b.2⟩
theorem S5.store {w : World} {p q1 q2 q : Addr} {u : Value} (h : S5 p q1 q2 u w) (hq : q = q1 ∨ q = q2) (h1 : p.block ≠ q1.block) (h2 : p.block ≠ q2.block) (v : Value) : S5 p q1 q2 u (w.setCell q v) := by
  have key : ∀ x, w.cell? x = some (cellD w x) → (w.setCell q v).cell? x = some (cellD (w.setCell q v) x) := by
    intro x hx
    by_cases e : q = x
    · subst e; exact cellD_eq (World.cell?_setCell_same' w q v (by rw [hx]; rfl))
    · have : (w.setCell q v).cell? x = some (cellD w x) := by rw [World.cell?_setCell_other w q x v e]; exact hx
      exact cellD_eq this
  refine ⟨?_, ⟨key _ h.2.1.1, by simp [h.2.1.2]⟩, key _ h.2.2.1, by simp [h.2.2.2]⟩
  have hne : q ≠ p := by
    intro e
    rcases hq with e' | e'
    · exact h1 (by rw [← e, e'])
    · exact h2 (by rw [← e, e'])
  rw [World.cell?_setCell_other w q p v hne]
  exact h.1

/-- A call hands back a list of n elements in new memory. -/
def RetArr {α : Type} (T : TypeId) (f : α → Value) (n : Nat) (xs : List α) (w : World) (e : Ending) (w' : World) : Prop :=
  ∃ g cap, e = .returned (.slice (some ⟨g, 0, none⟩) n cap) ∧ Hid (xs.length = n) ∧ w.heap.size ≤ g ∧ Arr T f w' g cap xs

/-- The list of f's values at 0 .. n-1, if all are there. -/
def collect {α : Type} (f : Nat → Option α) : Nat → Option (List α)
  | 0 => some []
  | k + 1 => (collect f k).bind fun l => (f k).bind fun c => some (l ++ [c])

theorem collect_some {α : Type} {f : Nat → Option α} {n : Nat} {l : List α} (h : collect f n = some l) (d : α) : l.length = n ∧ ∀ k, k < n → f k = some (l.getD k d) := by
  induction n generalizing l with
  | zero => simp [collect] at h; subst h; exact ⟨rfl, fun k hk => by omega⟩
  | succ n ih =>
    simp only [collect, Option.bind_eq_some_iff, Option.some.injEq] at h
    obtain ⟨l', hl', c, hc, rfl⟩ := h
    obtain ⟨h1, h2⟩ := ih hl'
    refine ⟨by simp [h1], fun k hk => ?_⟩
    by_cases hkn : k = n
    · subst hkn; rw [hc, ← h1]; simp
    · rw [h2 k (by omega)]; simp [List.getD_eq_getElem?_getD, List.getElem?_append_left (show k < l'.length by omega)]

theorem collect_of {α : Type} {f : Nat → Option α} {n : Nat} {l : List α} (d : α) (hl : l.length = n) (h : ∀ k, k < n → f k = some (l.getD k d)) : collect f n = some l := by
  induction n generalizing l with
  | zero => have : l = [] := List.eq_nil_of_length_eq_zero hl; subst this; rfl
  | succ n ih =>
    have e : l = l.take n ++ [l.getD n d] := by
      apply List.ext_getElem? ; intro i
      by_cases hi : i < n
      · rw [List.getElem?_append_left (by simp; omega)]; simp [hi]
      · by_cases hi2 : i = n
        · subst hi2; rw [List.getElem?_append_right (by simp; omega)]
          simp [hl, List.getD_eq_getElem?_getD, List.getElem?_eq_getElem (show i < l.length by omega)]
        · rw [List.getElem?_eq_none (by omega), List.getElem?_eq_none (by simp; omega)]
    have h1 : collect f n = some (l.take n) := ih (by simp; omega) fun k hk => by
      rw [h k (by omega)]; simp [List.getD_eq_getElem?_getD, hk]
    simp only [collect, h1, h n (by omega), Option.bind_some, Option.some.injEq]
    exact e.symm

/-- A list that is being filled from the left: k are there. -/
def filled {α : Type} (l : List α) (k : Nat) (d : α) : List α := (List.range l.length).map fun i => if i < k then l.getD i d else d

theorem filled_length {α : Type} (l : List α) (k : Nat) (d : α) : (filled l k d).length = l.length := by simp [filled]
theorem filled_zero {α : Type} (l : List α) (d : α) : filled l 0 d = List.replicate l.length d := by
  apply List.ext_getElem?; intro i
  by_cases hi : i < l.length <;> simp [filled, hi]
theorem filled_all {α : Type} (l : List α) (d : α) : filled l l.length d = l := by
  apply List.ext_getElem?; intro i
  by_cases hi : i < l.length <;> simp [filled, hi, List.getD_eq_getElem?_getD]
theorem filled_succ {α : Type} (l : List α) (k : Nat) (d : α) : (filled l k d).set k (l.getD k d) = filled l (k + 1) d := by
  apply List.ext_getElem?; intro i
  simp only [filled, List.getElem?_set, List.length_map, List.length_range, List.getElem?_map]
  by_cases hi : i < l.length
  · by_cases hik : k = i
    · subst hik; simp [hi]
    · simp [hik, hi, show (i < k + 1) = (i < k) by simp; omega]
  · by_cases hik : k = i
    · subst hik; simp [hi]
    · simp [hik, hi]

end Go.Proofs.YtehiabiahipkhaaGreat
