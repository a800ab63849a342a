/-
  Plain: what the sums of a density with itself moved have of themselves: opposite vectors, the greatest, all together; moved and opposite densities.
  The walks of facetlaw23.moved and facetlaw23.opposite.
-/
import Derived.Test.YtehiabiahipkhaaGreatB2
import Derived.Test.YtehiabiahipkhaaGreatB5
namespace Go.Proofs.YtehiabiahipkhaaGreat
set_option linter.unusedVariables false
set_option linter.unusedSimpArgs false

theorem isum_rot (f : Nat → Int) (n : Nat) : isum (fun x => f ((x + 1) % n)) n = isum f n := by
  cases n with
  | zero => rfl
  | succ k =>
    show isum (fun x => f ((x + 1) % (k + 1))) k + f ((k + 1) % (k + 1)) = isum f (k + 1)
    rw [Nat.mod_self, isum_front]
    have e : isum (fun x => f ((x + 1) % (k + 1))) k = isum (fun x => f (x + 1)) k := isum_congr fun x hx => by rw [Nat.mod_eq_of_lt (by omega)]
    rw [e]; omega
theorem isum_shift (f : Nat → Int) (n t : Nat) : isum (fun x => f ((x + t) % n)) n = isum f n := by
  induction t generalizing f with
  | zero => exact isum_congr fun x hx => by rw [Nat.add_zero, Nat.mod_eq_of_lt hx]
  | succ t ih =>
    rw [← ih f, ← isum_rot (fun x => f ((x + t) % n)) n]
    exact isum_congr fun x hx => by rw [Nat.mod_add_mod, show x + (t + 1) = x + 1 + t by omega]

/-- A sum over all places, moved. -/
theorem isum_mov {n0 n1 n2 L : Nat} (h : P3 n0 n1 n2 L) (f : Nat → Int) (u : Nat) : isum (fun i => f (movN n0 n1 n2 i u)) L = isum f L := by
  rw [isum_places h, isum_places h]
  rw [← isum_shift (fun x => isum (fun y => isum (fun z => f ((x * n1 + y) * n2 + z)) n2) n1) n0 (u / n2 / n1)]
  refine isum_congr fun x hx => ?_
  rw [← isum_shift (fun y => isum (fun z => f (((x + u / n2 / n1) % n0 * n1 + y) * n2 + z)) n2) n1 (u / n2 % n1)]
  refine isum_congr fun y hy => ?_
  rw [← isum_shift (fun z => f (((x + u / n2 / n1) % n0 * n1 + (y + u / n2 % n1) % n1) * n2 + z)) n2 (u % n2)]
  refine isum_congr fun z hz => ?_
  unfold movN
  rw [pl_q _ _ _ _ _ hz, pl_z _ _ _ _ _ hz, pl_y _ _ _ hy, pl_x _ _ _ hy]
theorem isum_oppN {n0 n1 n2 L : Nat} (h : P3 n0 n1 n2 L) (f : Nat → Int) : isum (fun i => f (oppN n0 n1 n2 i)) L = isum f L := by
  rw [isum_places h, isum_places h]
  rw [← isum_opp (fun x => isum (fun y => isum (fun z => f ((x * n1 + y) * n2 + z)) n2) n1) n0]
  refine isum_congr fun x hx => ?_
  rw [← isum_opp (fun y => isum (fun z => f (((n0 - x) % n0 * n1 + y) * n2 + z)) n2) n1]
  refine isum_congr fun y hy => ?_
  rw [← isum_opp (fun z => f (((n0 - x) % n0 * n1 + (n1 - y) % n1) * n2 + z)) n2]
  refine isum_congr fun z hz => ?_
  unfold oppN
  rw [pl_q _ _ _ _ _ hz, pl_z _ _ _ _ _ hz, pl_y _ _ _ hy, pl_x _ _ _ hy]

theorem movN_parts {n0 n1 n2 L : Nat} (h : P3 n0 n1 n2 L) (i u : Nat) : movN n0 n1 n2 i u / n2 / n1 = (i / n2 / n1 + u / n2 / n1) % n0 ∧ movN n0 n1 n2 i u / n2 % n1 = (i / n2 % n1 + u / n2 % n1) % n1 ∧ movN n0 n1 n2 i u % n2 = (i % n2 + u % n2) % n2 := by
  unfold movN
  rw [pl_q _ _ _ _ _ (Nat.mod_lt _ h.c.1), pl_z _ _ _ _ _ (Nat.mod_lt _ h.c.1), pl_y _ _ _ (Nat.mod_lt _ h.b.1), pl_x _ _ _ (Nat.mod_lt _ h.b.1)]
  exact ⟨rfl, rfl, rfl⟩
theorem movN_of {n0 n1 n2 i u x y z : Nat} (e0 : (i / n2 / n1 + u / n2 / n1) % n0 = x) (e1 : (i / n2 % n1 + u / n2 % n1) % n1 = y) (e2 : (i % n2 + u % n2) % n2 = z) : movN n0 n1 n2 i u = (x * n1 + y) * n2 + z := by
  unfold movN; rw [e0, e1, e2]
theorem oppN_of {n0 n1 n2 i x y z : Nat} (e0 : (n0 - i / n2 / n1) % n0 = x) (e1 : (n1 - i / n2 % n1) % n1 = y) (e2 : (n2 - i % n2) % n2 = z) : oppN n0 n1 n2 i = (x * n1 + y) * n2 + z := by
  unfold oppN; rw [e0, e1, e2]
theorem movN_comm (n0 n1 n2 i u : Nat) : movN n0 n1 n2 i u = movN n0 n1 n2 u i := by
  unfold movN
  rw [Nat.add_comm (i / n2 / n1), Nat.add_comm (i / n2 % n1), Nat.add_comm (i % n2)]
theorem movN_movN {n0 n1 n2 L : Nat} (h : P3 n0 n1 n2 L) (i t u : Nat) : movN n0 n1 n2 (movN n0 n1 n2 i t) u = movN n0 n1 n2 (movN n0 n1 n2 i u) t := by
  obtain ⟨a, b, c⟩ := movN_parts h i t
  obtain ⟨a', b', c'⟩ := movN_parts h i u
  have key : ∀ x y z n : Nat, ((x + y) % n + z) % n = ((x + z) % n + y) % n := fun x y z n => by
    rw [Nat.mod_add_mod, Nat.mod_add_mod, Nat.add_right_comm]
  rw [movN_of (i := movN n0 n1 n2 i t) (u := u) (x := ((i / n2 / n1 + u / n2 / n1) % n0 + t / n2 / n1) % n0) (y := ((i / n2 % n1 + u / n2 % n1) % n1 + t / n2 % n1) % n1) (z := ((i % n2 + u % n2) % n2 + t % n2) % n2) (by rw [a]; exact key _ _ _ _) (by rw [b]; exact key _ _ _ _) (by rw [c]; exact key _ _ _ _)]
  exact (movN_of (by rw [a']) (by rw [b']) (by rw [c'])).symm
theorem opp_cancel {n x u : Nat} (hx : x < n) (hu : u < n) : ((x + u) % n + (n - u) % n) % n = x := by
  rw [← Nat.add_mod, show x + u + (n - u) = x + n by omega, Nat.add_mod_right, Nat.mod_eq_of_lt hx]
theorem movN_opp {n0 n1 n2 L i u : Nat} (h : P3 n0 n1 n2 L) (hi : i < L) (hu : u < L) : movN n0 n1 n2 (movN n0 n1 n2 i u) (oppN n0 n1 n2 u) = i := by
  obtain ⟨a, b, c⟩ := movN_parts h i u
  obtain ⟨a', b', c'⟩ := oppN_parts h u
  obtain ⟨l0, l1, l2, e⟩ := place_parts h hi
  obtain ⟨m0, m1, m2, _⟩ := place_parts h hu
  rw [movN_of (x := i / n2 / n1) (y := i / n2 % n1) (z := i % n2) (by rw [a, a']; exact opp_cancel l0 m0) (by rw [b, b']; exact opp_cancel l1 m1) (by rw [c, c']; exact opp_cancel l2 m2)]
  exact e
theorem opp_flip {n x u : Nat} (hx : x < n) (hu : u < n) : ((n - x) % n + u) % n = (n - (x + (n - u) % n) % n) % n := by
  by_cases hu0 : u = 0
  · subst hu0
    simp [Nat.mod_eq_of_lt hx]
  · rw [Nat.mod_eq_of_lt (show n - u < n by omega)]
    by_cases hlt : x < u
    · rw [Nat.mod_eq_of_lt (show x + (n - u) < n by omega), Nat.mod_add_mod, show n - x + u = (n - (x + (n - u))) + n by omega, Nat.add_mod_right]
    · rw [show x + (n - u) = (x - u) + n by omega, Nat.add_mod_right, Nat.mod_eq_of_lt (show x - u < n by omega), Nat.mod_add_mod, show n - x + u = n - (x - u) by omega]
theorem movN_flip {n0 n1 n2 L i u : Nat} (h : P3 n0 n1 n2 L) (hi : i < L) (hu : u < L) : movN n0 n1 n2 (oppN n0 n1 n2 i) u = oppN n0 n1 n2 (movN n0 n1 n2 i (oppN n0 n1 n2 u)) := by
  obtain ⟨a, b, c⟩ := oppN_parts h i
  obtain ⟨a', b', c'⟩ := oppN_parts h u
  obtain ⟨a2, b2, c2⟩ := movN_parts h i (oppN n0 n1 n2 u)
  obtain ⟨l0, l1, l2, _⟩ := place_parts h hi
  obtain ⟨m0, m1, m2, _⟩ := place_parts h hu
  rw [oppN_of (i := movN n0 n1 n2 i (oppN n0 n1 n2 u)) (x := (n0 - (i / n2 / n1 + (n0 - u / n2 / n1) % n0) % n0) % n0) (y := (n1 - (i / n2 % n1 + (n1 - u / n2 % n1) % n1) % n1) % n1) (z := (n2 - (i % n2 + (n2 - u % n2) % n2) % n2) % n2) (by rw [a2, a']) (by rw [b2, b']) (by rw [c2, c'])]
  exact movN_of (by rw [a]; exact opp_flip l0 m0) (by rw [b]; exact opp_flip l1 m1) (by rw [c]; exact opp_flip l2 m2)
theorem movN_zero {n0 n1 n2 L i : Nat} (h : P3 n0 n1 n2 L) (hi : i < L) : movN n0 n1 n2 i 0 = i := by
  obtain ⟨l0, l1, l2, e⟩ := place_parts h hi
  rw [movN_of (x := i / n2 / n1) (y := i / n2 % n1) (z := i % n2) (by simp [Nat.mod_eq_of_lt l0]) (by simp [Nat.mod_eq_of_lt l1]) (by simp [Nat.mod_eq_of_lt l2])]
  exact e

theorem isum_add (f g : Nat → Int) (n : Nat) : isum (fun i => f i + g i) n = isum f n + isum g n := by
  induction n with
  | zero => rfl
  | succ n ih => show isum (fun i => f i + g i) n + (f n + g n) = (isum f n + f n) + (isum g n + g n); rw [ih]; omega
theorem isum_mul (c : Int) (f : Nat → Int) (n : Nat) : isum (fun i => c * f i) n = c * isum f n := by
  induction n with
  | zero => show (0 : Int) = c * 0; rw [Int.mul_zero]
  | succ n ih => show isum _ n + c * f n = c * (isum f n + f n); rw [ih, Int.mul_add]
theorem isum_swap (f : Nat → Nat → Int) (n m : Nat) : isum (fun i => isum (fun j => f i j) m) n = isum (fun j => isum (fun i => f i j) n) m := by
  induction n with
  | zero =>
    show (0 : Int) = isum (fun j => 0) m
    induction m with
    | zero => rfl
    | succ m ih => show (0 : Int) = isum (fun j => 0) m + 0; rw [← ih]; rfl
  | succ n ih =>
    show isum _ n + isum (fun j => f n j) m = isum (fun j => isum (fun i => f i j) n + f n j) m
    rw [ih, isum_add]
theorem isum_le (f g : Nat → Int) (n : Nat) (h : ∀ i, i < n → f i ≤ g i) : isum f n ≤ isum g n := by
  induction n with
  | zero => exact Int.le_refl _
  | succ n ih =>
    have h1 := ih fun i hi => h i (by omega)
    have h2 := h n (by omega)
    show isum f n + f n ≤ isum g n + g n
    omega

theorem sq_le (x y : Int) : 2 * (x * y) ≤ x * x + y * y ∧ 2 * (-(x * y)) ≤ x * x + y * y := by
  have h1 : 0 ≤ (x - y) * (x - y) := by
    rcases Int.le_total 0 (x - y) with h | h
    · exact Int.mul_nonneg h h
    · have := Int.mul_nonneg (show 0 ≤ -(x - y) by omega) (show 0 ≤ -(x - y) by omega)
      rwa [Int.neg_mul_neg] at this
  have h2 : 0 ≤ (x + y) * (x + y) := by
    rcases Int.le_total 0 (x + y) with h | h
    · exact Int.mul_nonneg h h
    · have := Int.mul_nonneg (show 0 ≤ -(x + y) by omega) (show 0 ≤ -(x + y) by omega)
      rwa [Int.neg_mul_neg] at this
  have e1 : (x - y) * (x - y) = x * x + y * y - 2 * (x * y) := by rw [Int.sub_mul, Int.mul_sub, Int.mul_sub, Int.mul_comm y x]; omega
  have e2 : (x + y) * (x + y) = x * x + y * y + 2 * (x * y) := by rw [Int.add_mul, Int.mul_add, Int.mul_add, Int.mul_comm y x]; omega
  omega

section
variable {n0 n1 n2 L : Nat} (h : P3 n0 n1 n2 L) (cs : List Int)
include h
theorem auto_zero : autoS n0 n1 n2 L cs 0 = isum (fun i => cs.getD i 0 * cs.getD i 0) L := by
  unfold autoS
  exact isum_congr fun i hi => by rw [movN_zero h hi]
theorem auto_opp (u : Nat) (hu : u < L) : autoS n0 n1 n2 L cs (oppN n0 n1 n2 u) = autoS n0 n1 n2 L cs u := by
  unfold autoS
  rw [← isum_mov h (fun i => cs.getD i 0 * cs.getD (movN n0 n1 n2 i (oppN n0 n1 n2 u)) 0) u]
  exact isum_congr fun i hi => by rw [movN_opp h hi hu, Int.mul_comm]
theorem auto_le (u : Nat) : autoS n0 n1 n2 L cs u ≤ autoS n0 n1 n2 L cs 0 ∧ -autoS n0 n1 n2 L cs u ≤ autoS n0 n1 n2 L cs 0 := by
  have e2 : isum (fun i => cs.getD (movN n0 n1 n2 i u) 0 * cs.getD (movN n0 n1 n2 i u) 0) L = autoS n0 n1 n2 L cs 0 := by
    rw [isum_mov h (fun i => cs.getD i 0 * cs.getD i 0) u, auto_zero h cs]
  have s : isum (fun i => cs.getD i 0 * cs.getD i 0 + cs.getD (movN n0 n1 n2 i u) 0 * cs.getD (movN n0 n1 n2 i u) 0) L = 2 * autoS n0 n1 n2 L cs 0 := by
    rw [isum_add, e2, ← auto_zero h cs]; omega
  have m1 : isum (fun i => 2 * (cs.getD i 0 * cs.getD (movN n0 n1 n2 i u) 0)) L = 2 * autoS n0 n1 n2 L cs u := isum_mul _ _ _
  have m2 : isum (fun i => (-2) * (cs.getD i 0 * cs.getD (movN n0 n1 n2 i u) 0)) L = (-2) * autoS n0 n1 n2 L cs u := isum_mul _ _ _
  have b1 := isum_le _ _ L fun i (_ : i < L) => (sq_le (cs.getD i 0) (cs.getD (movN n0 n1 n2 i u) 0)).1
  have b2 := isum_le (fun i => (-2) * (cs.getD i 0 * cs.getD (movN n0 n1 n2 i u) 0)) _ L fun i (_ : i < L) => (by
    have := (sq_le (cs.getD i 0) (cs.getD (movN n0 n1 n2 i u) 0)).2
    show (-2) * (cs.getD i 0 * cs.getD (movN n0 n1 n2 i u) 0) ≤ cs.getD i 0 * cs.getD i 0 + cs.getD (movN n0 n1 n2 i u) 0 * cs.getD (movN n0 n1 n2 i u) 0
    omega)
  rw [m1, s] at b1
  rw [m2, s] at b2
  omega
theorem auto_all : isum (fun u => autoS n0 n1 n2 L cs u) L = isum (fun i => cs.getD i 0) L * isum (fun i => cs.getD i 0) L := by
  unfold autoS
  rw [isum_swap]
  have e : ∀ i, i < L → isum (fun u => cs.getD i 0 * cs.getD (movN n0 n1 n2 i u) 0) L = isum (fun k => cs.getD k 0) L * cs.getD i 0 := fun i _ => by
    rw [isum_mul]
    have := isum_mov h (fun k => cs.getD k 0) i
    have e2 : isum (fun u => cs.getD (movN n0 n1 n2 i u) 0) L = isum (fun k => cs.getD k 0) L := by
      rw [← this]; exact isum_congr fun u _ => by rw [movN_comm]
    rw [e2, Int.mul_comm]
  rw [isum_congr e, isum_mul]
theorem auto_moved (ds : List Int) (t : Nat) (hd : ∀ i, i < L → ds.getD (movN n0 n1 n2 i t) 0 = cs.getD i 0) (u : Nat) : autoS n0 n1 n2 L ds u = autoS n0 n1 n2 L cs u := by
  unfold autoS
  rw [← isum_mov h (fun i => ds.getD i 0 * ds.getD (movN n0 n1 n2 i u) 0) t]
  exact isum_congr fun i hi => by rw [hd i hi, movN_movN h, hd _ (movN_lt h i u)]
theorem auto_turned (os : List Int) (ho : ∀ i, i < L → os.getD (oppN n0 n1 n2 i) 0 = cs.getD i 0) (u : Nat) (hu : u < L) : autoS n0 n1 n2 L os u = autoS n0 n1 n2 L cs u := by
  rw [← auto_opp h cs u hu]
  unfold autoS
  rw [← isum_oppN h (fun i => os.getD i 0 * os.getD (movN n0 n1 n2 i u) 0)]
  exact isum_congr fun i hi => by rw [ho i hi, movN_flip h hi hu, ho _ (movN_lt h i _)]
end

end Go.Proofs.YtehiabiahipkhaaGreat

namespace Go.Proofs.YtehiabiahipkhaaGreat
open Go.RowKit
set_option linter.unusedVariables false
set_option linter.unusedSimpArgs false

/-- Three bytes. -/
abbrev byteV (a b c : Nat) : Value := .agg #[.int .u8 a, .int .u8 b, .int .u8 c]
/-- A new variable that holds three ints. -/
def MadeV (w0 wx : World) (a b c : Nat) (v : Value) : Prop := ∃ p, v = .pointer (some ⟨p, 0, none⟩) ∧ V3 wx p a b c ∧ Bel w0 wx ∧ w0.heap.size ≤ p

/-- The quotients of a place's number, as Go makes them. -/
theorem place_facts {n0 n1 n2 L i : Nat} (h : P3 n0 n1 n2 L) (hi : i < L) :
    (IntKind.i64.wrap ((n1 : Int) * (n2 : Int)) = ((n1 * n2 : Nat) : Int) ∧ (i : Int).tdiv ((n1 * n2 : Nat) : Int) = ((i / n2 / n1 : Nat) : Int) ∧ IntKind.i64.wrap ((i / n2 / n1 : Nat) : Int) = ((i / n2 / n1 : Nat) : Int) ∧ ¬ n1 * n2 = 0) ∧
    ((i : Int).tdiv (n2 : Int) = ((i / n2 : Nat) : Int) ∧ IntKind.i64.wrap ((i / n2 : Nat) : Int) = ((i / n2 : Nat) : Int) ∧ ((i / n2 : Nat) : Int).tmod (n1 : Int) = ((i / n2 % n1 : Nat) : Int) ∧ IntKind.i64.wrap ((i / n2 % n1 : Nat) : Int) = ((i / n2 % n1 : Nat) : Int)) ∧
    ((i : Int).tmod (n2 : Int) = ((i % n2 : Nat) : Int) ∧ IntKind.i64.wrap ((i % n2 : Nat) : Int) = ((i % n2 : Nat) : Int) ∧ ¬ n1 = 0 ∧ ¬ n2 = 0) := by
  have hl := h.l
  have hb := h.b
  have hc := h.c
  have p1 : n1 * n2 ≤ 192 * 192 := Nat.mul_le_mul hb.2 hc.2
  have p0 : 0 < n1 * n2 := Nat.mul_pos hb.1 hc.1
  have e : i / n2 / n1 = i / (n1 * n2) := by rw [Nat.mul_comm, Nat.div_div_eq_div_mul]
  have d1 : i / n2 ≤ i := Nat.div_le_self _ _
  have hi2 : i < 262144 := by omega
  have d2 : i / n2 / n1 ≤ i / n2 := Nat.div_le_self _ _
  have m1 : i / n2 % n1 < n1 := Nat.mod_lt _ hb.1
  have m2 : i % n2 < n2 := Nat.mod_lt _ hc.1
  have gen : ∀ a : Nat, a < 2 ^ 30 → IntKind.i64.wrap (a : Int) = (a : Int) := fun a h => IntWalk.i64_in _ (by omega)
  refine ⟨⟨?_, ?_, gen _ (Nat.lt_of_le_of_lt (Nat.le_trans d2 d1) (by omega)), by omega⟩, ⟨?_, gen _ (Nat.lt_of_le_of_lt d1 (by omega)), ?_, gen _ (by omega)⟩, ?_, gen _ (by omega), by omega, by omega⟩
  · rw [← Int.natCast_mul]; exact IntWalk.i64_in _ (by omega)
  · rw [Int.tdiv_eq_ediv_of_nonneg (Int.natCast_nonneg _), e]; exact (Int.natCast_ediv i (n1 * n2)).symm
  · rw [Int.tdiv_eq_ediv_of_nonneg (Int.natCast_nonneg _)]; exact (Int.natCast_ediv i n2).symm
  · rw [Int.tmod_eq_emod_of_nonneg (Int.natCast_nonneg _)]; exact (Int.natCast_emod (i / n2) n1).symm
  · rw [Int.tmod_eq_emod_of_nonneg (Int.natCast_nonneg _)]; exact (Int.natCast_emod i n2).symm

/-- A round of opposite. -/
theorem opp_round (t n x : Nat) (ht : t ≤ 40000) (hn : 1 ≤ n ∧ n ≤ 192) (hx : x < n) :
    IntKind.i64.wrap ((t : Int) * (n : Int)) = ((t * n : Nat) : Int) ∧ IntKind.i64.wrap ((n : Int) - (x : Int)) = ((n - x : Nat) : Int) ∧ ((n - x : Nat) : Int).tmod (n : Int) = (((n - x) % n : Nat) : Int) ∧
      IntKind.i64.wrap (((n - x) % n : Nat) : Int) = (((n - x) % n : Nat) : Int) ∧ IntKind.i64.wrap (((t * n : Nat) : Int) + (((n - x) % n : Nat) : Int)) = ((t * n + (n - x) % n : Nat) : Int) := by
  have p1 : t * n ≤ 40000 * 192 := Nat.mul_le_mul ht hn.2
  have m1 : (n - x) % n < n := Nat.mod_lt _ hn.1
  have e : ((n : Int) - (x : Int)) = ((n - x : Nat) : Int) := by omega
  have gen : ∀ a : Nat, a < 2 ^ 30 → IntKind.i64.wrap (a : Int) = (a : Int) := fun a h => IntWalk.i64_in _ (by omega)
  refine ⟨?_, ?_, ?_, gen _ (by omega), ?_⟩
  · rw [← Int.natCast_mul]; exact gen _ (by omega)
  · rw [e]; exact gen _ (by omega)
  · rw [Int.tmod_eq_emod_of_nonneg (Int.natCast_nonneg _)]; exact (Int.natCast_emod _ _).symm
  · rw [← Int.natCast_add]; exact gen _ (by omega)
/-- A round of moved. -/
theorem mov_round (t n x u : Nat) (ht : t ≤ 40000) (hn : 1 ≤ n ∧ n ≤ 192) (hx : x < n) (hu : u < 256) :
    IntKind.i64.wrap ((t : Int) * (n : Int)) = ((t * n : Nat) : Int) ∧ (IntKind.i64.wrap (u : Int) = (u : Int) ∧ IntKind.i64.wrap ((x : Int) + (u : Int)) = ((x + u : Nat) : Int)) ∧ ((x + u : Nat) : Int).tmod (n : Int) = (((x + u) % n : Nat) : Int) ∧
      IntKind.i64.wrap (((x + u) % n : Nat) : Int) = (((x + u) % n : Nat) : Int) ∧ IntKind.i64.wrap (((t * n : Nat) : Int) + (((x + u) % n : Nat) : Int)) = ((t * n + (x + u) % n : Nat) : Int) := by
  have p1 : t * n ≤ 40000 * 192 := Nat.mul_le_mul ht hn.2
  have m1 : (x + u) % n < n := Nat.mod_lt _ hn.1
  have gen : ∀ a : Nat, a < 2 ^ 30 → IntKind.i64.wrap (a : Int) = (a : Int) := fun a h => IntWalk.i64_in _ (by omega)
  refine ⟨?_, ⟨gen _ (by omega), ?_⟩, ?_, gen _ (by omega), ?_⟩
  · rw [← Int.natCast_mul]; exact gen _ (by omega)
  · rw [← Int.natCast_add]; exact gen _ (by omega)
  · rw [Int.tmod_eq_emod_of_nonneg (Int.natCast_nonneg _)]; exact (Int.natCast_emod _ _).symm
  · rw [← Int.natCast_add]; exact gen _ (by omega)
/-- Three bytes in memory. -/
def B3 (W : World) (p a b c : Nat) : Prop :=
  W.cell? ⟨p, 0, none⟩ = some (.int .u8 a) ∧ W.cell? ⟨p, 1, none⟩ = some (.int .u8 b) ∧ W.cell? ⟨p, 2, none⟩ = some (.int .u8 c)
theorem B3.bel {W W' : World} {p a b c : Nat} (h : B3 W p a b c) (hb : Bel W W') : B3 W' p a b c := ⟨hb.cellv h.1, hb.cellv h.2.1, hb.cellv h.2.2⟩
theorem b3_new (W : World) (a b c : Nat) (T : TypeId) : B3 (W.alloc (.cells #[.int .u8 a, .int .u8 b, .int .u8 c] T)) W.heap.size a b c :=
  ⟨cell_new _ _ _ 0, cell_new _ _ _ 1, cell_new _ _ _ 2⟩
theorem mov_sides {n0 n1 n2 i u0 u1 u2 : Nat} (h0 : 0 < n0) (h1 : 0 < n1) (h2 : 0 < n2) :
    ((i / n2 / n1 + u0) % n0 * n1 + (i / n2 % n1 + u1) % n1) * n2 + (i % n2 + u2) % n2 = movN n0 n1 n2 i ((u0 % n0 * n1 + u1 % n1) * n2 + u2 % n2) := by
  have a2 := Nat.mod_lt u2 h2
  have a1 := Nat.mod_lt u1 h1
  have e1 : ((u0 % n0 * n1 + u1 % n1) * n2 + u2 % n2) / n2 = u0 % n0 * n1 + u1 % n1 := by
    rw [Nat.mul_comm, Nat.mul_add_div h2, Nat.div_eq_of_lt a2]; rfl
  have e2 : ((u0 % n0 * n1 + u1 % n1) * n2 + u2 % n2) % n2 = u2 % n2 := by
    rw [Nat.mul_comm, Nat.mul_add_mod, Nat.mod_mod]
  have e3 : (u0 % n0 * n1 + u1 % n1) / n1 = u0 % n0 := by
    rw [Nat.mul_comm, Nat.mul_add_div h1, Nat.div_eq_of_lt a1]; rfl
  have e4 : (u0 % n0 * n1 + u1 % n1) % n1 = u1 % n1 := by
    rw [Nat.mul_comm, Nat.mul_add_mod, Nat.mod_mod]
  unfold movN
  rw [e1, e2, e3, e4]
  simp only [Nat.add_mod_mod]

set_option maxHeartbeats 4000000 in
set_option maxRecDepth 100000 in
theorem opposite_any (n0 n1 n2 L i : Nat) (w : World) (hs : P3 n0 n1 n2 L) (hi : i < L) :
    Calls Tryz.prog 19 #[vecV n0 n1 n2, .int .i64 i] w fun e w' => e = .returned (.int .i64 (oppN n0 n1 n2 i : Nat)) ∧ Bel w w' := by
  obtain ⟨⟨a1, a2, a3, a4⟩, ⟨b1, b2, b3, b4⟩, c1, c2, c3, c4⟩ := place_facts hs hi
  obtain ⟨l0, l1, l2, _⟩ := place_parts hs hi
  have hlt0 : (n0 - (i / n2 / n1)) % n0 < n0 := Nat.mod_lt _ hs.a.1
  have hlt1 : (n1 - (i / n2 % n1)) % n1 < n1 := Nat.mod_lt _ hs.b.1
  have q0 := opp_round 0 n0 (i / n2 / n1) (by omega) hs.a l0
  have q1 := opp_round ((n0 - (i / n2 / n1)) % n0) n1 (i / n2 % n1) (by have := hs.a.2; omega) hs.b l1
  have q2 := opp_round ((n0 - (i / n2 / n1)) % n0 * n1 + (n1 - (i / n2 % n1)) % n1) n2 (i % n2) (by
    have h1 := hs.a.2
    have h2 := hs.b.2
    have h3 : (n0 - (i / n2 / n1)) % n0 * n1 ≤ 192 * 192 := Nat.mul_le_mul (by omega) h2
    omega) hs.c l2
  have HO : ((n0 - (i / n2 / n1)) % n0 * n1 + (n1 - (i / n2 % n1)) % n1) * n2 + (n2 - (i % n2)) % n2 = oppN n0 n1 n2 i := rfl
  rw [Nat.zero_mul, Nat.zero_add] at q0
  rw [← HO]
  have HN : Hid (1 ≤ n0 ∧ 1 ≤ n1 ∧ 1 ≤ n2) := ⟨hs.a.1, hs.b.1, hs.c.1⟩
  clear HO hlt0 hlt1 l0 l1 l2
  generalize ((n0 - (i / n2 / n1)) % n0 * n1 + (n1 - (i / n2 % n1)) % n1) * n2 + (n2 - (i % n2)) % n2 = t3 at *
  generalize ((n0 - (i / n2 / n1)) % n0 * n1 + (n1 - (i / n2 % n1)) % n1) * n2 = y2 at *
  generalize (n2 - (i % n2)) % n2 = g2 at *
  generalize (n0 - (i / n2 / n1)) % n0 * n1 + (n1 - (i / n2 % n1)) % n1 = t2 at *
  generalize (n0 - (i / n2 / n1)) % n0 * n1 = y1 at *
  generalize (n1 - (i / n2 % n1)) % n1 = g1 at *
  generalize (n0 - (i / n2 / n1)) % n0 = t1 at *
  skip
  skip
  skip
  have HR0 := Lib.hid q0
  have HR1 := Lib.hid q1
  have HR2 := Lib.hid q2
  clear q0 q1 q2
  generalize n1 * n2 = pp at a1 a2 a4
  generalize i / n2 / n1 = x at *
  generalize i / n2 % n1 = y at *
  generalize i % n2 = z at *
  generalize i / n2 = q at *
  clear hs hi
  have K : Hid (V3 (w.alloc (.cells #[.int .i64 n0, .int .i64 n1, .int .i64 n2] 23)) w.heap.size n0 n1 n2) := v3_new _ _ _ _ _
  have HB : Hid (Bel w (w.alloc (.cells #[.int .i64 n0, .int .i64 n1, .int .i64 n2] 23))) := (Bel.refl w).alloc _
  go_enter Tryz.func19, Tryz.ntmps19
  go_wp2_with fail
  generalize World.alloc _ _ = W at K HB ⊢
  generalize w.heap.size = p2 at K ⊢
  obtain ⟨k0, k1, k2⟩ := K.out
  have hp2 : p2 < W.heap.size := by simpa using World.block_lt_of_cell? _ _ k0
  go_cut [5] from 8 to 26 (fun s5 wx => MadeV W wx x y z s5)
  case first =>
    go_region
    go_wp2_with fail
    go_meet
    exact ⟨_, rfl, (v3_new _ _ _ _ _).bel (Bel.refl _).drew, ((Bel.refl _).alloc _).drew, Nat.le_refl _⟩
  case rest =>
    obtain ⟨p5, rfl, K5', hb5, _⟩ := hcut
    have K5 := Lib.hid K5'
    have HB5 := Lib.hid hb5
    clear K5' hb5 a1 a2 a3 a4 b1 b2 b3 b4 c1 c2 c3 c4 k0 k1 k2 hp2
    go_wp2_with fail
    go_loopw [6, 27] (fun s i wr => ∃ (j t : Nat), i = .int .i64 j ∧ s = .int .i64 t ∧ ((j = 0 ∧ t = 0) ∨ (j = 1 ∧ t = t1) ∨ (j = 2 ∧ t = t2) ∨ (j = 3 ∧ t = t3)) ∧ Bel wc wr) (fun _ i _ => 3 - (intOf i).toNat)
    case atStart => exact ⟨0, 0, rfl, rfl, Or.inl ⟨rfl, rfl⟩, Bel.refl _⟩
    case round =>
    obtain ⟨j, t, rfl, rfl, ht, hbw⟩ := hrel
    have k2 := (K.out.bel HB5.out).bel hbw
    have k5 := K5.out.bel hbw
    have HBW := Lib.hid hbw
    clear hbw
    rcases ht with ⟨rfl, rfl⟩ | ⟨rfl, ht⟩ | ⟨rfl, ht⟩ | ⟨rfl, ht⟩
    · obtain ⟨m1, m2, m3, m4, m5⟩ := HR0.out
      have hne : ¬ n0 = 0 := by have := HN.out; omega
      have c0 : ∀ v : In wr, v.w.cell? ⟨p2, 0, none⟩ = some (.int .i64 n0) := In.cellv k2.1
      have c1 : ∀ v : In wr, v.w.cell? ⟨p5, 0, none⟩ = some (.int .i64 x) := In.cellv k5.1
      clear k2 k5
      go_wp2_with fail
      refine wp_in (by kernel_rfl) (by kernel_rfl) ?_
      repeat (go_big_quiet_step (fail))
      refine wpQuiet_nil ?_
      intro vq
      have HV := Lib.hid vq.h
      obtain ⟨wz, hwz⟩ : ∃ wz, vq.w = wz := ⟨_, rfl⟩
      rw [hwz] at HV ⊢
      clear hwz c0 c1
      go_wp2_with fail
      go_roundw
      case rel => exact ⟨1, _, rfl, rfl, Or.inr (Or.inl ⟨rfl, rfl⟩), HBW.out.trans HV.out⟩
      case measure => simp [intOf]
    · have ht2 := ht.symm
      clear ht
      subst ht2
      obtain ⟨m1, m2, m3, m4, m5⟩ := HR1.out
      have hne : ¬ n1 = 0 := by have := HN.out; omega
      have c0 : ∀ v : In wr, v.w.cell? ⟨p2, 1, none⟩ = some (.int .i64 n1) := In.cellv k2.2.1
      have c1 : ∀ v : In wr, v.w.cell? ⟨p5, 1, none⟩ = some (.int .i64 y) := In.cellv k5.2.1
      clear k2 k5
      go_wp2_with fail
      refine wp_in (by kernel_rfl) (by kernel_rfl) ?_
      repeat (go_big_quiet_step (fail))
      refine wpQuiet_nil ?_
      intro vq
      have HV := Lib.hid vq.h
      obtain ⟨wz, hwz⟩ : ∃ wz, vq.w = wz := ⟨_, rfl⟩
      rw [hwz] at HV ⊢
      clear hwz c0 c1
      go_wp2_with fail
      go_roundw
      case rel => exact ⟨2, _, rfl, rfl, Or.inr (Or.inr (Or.inl ⟨rfl, rfl⟩)), HBW.out.trans HV.out⟩
      case measure => simp [intOf]
    · have ht2 := ht.symm
      clear ht
      subst ht2
      obtain ⟨m1, m2, m3, m4, m5⟩ := HR2.out
      have hne : ¬ n2 = 0 := by have := HN.out; omega
      have c0 : ∀ v : In wr, v.w.cell? ⟨p2, 2, none⟩ = some (.int .i64 n2) := In.cellv k2.2.2
      have c1 : ∀ v : In wr, v.w.cell? ⟨p5, 2, none⟩ = some (.int .i64 z) := In.cellv k5.2.2
      clear k2 k5
      go_wp2_with fail
      refine wp_in (by kernel_rfl) (by kernel_rfl) ?_
      repeat (go_big_quiet_step (fail))
      refine wpQuiet_nil ?_
      intro vq
      have HV := Lib.hid vq.h
      obtain ⟨wz, hwz⟩ : ∃ wz, vq.w = wz := ⟨_, rfl⟩
      rw [hwz] at HV ⊢
      clear hwz c0 c1
      go_wp2_with fail
      go_roundw
      case rel => exact ⟨3, _, rfl, rfl, Or.inr (Or.inr (Or.inr ⟨rfl, rfl⟩)), HBW.out.trans HV.out⟩
      case measure => simp [intOf]
    · have ht2 := ht.symm
      clear ht
      subst ht2
      clear k2 k5
      go_wp2_with fail
      go_ret
      exact ⟨rfl, (HB.out.trans HB5.out).trans HBW.out⟩

set_option maxHeartbeats 4000000 in
set_option maxRecDepth 100000 in
theorem moved_any (n0 n1 n2 L i u0 u1 u2 : Nat) (w : World) (hs : P3 n0 n1 n2 L) (hi : i < L) (hu : u0 < 256 ∧ u1 < 256 ∧ u2 < 256) :
    Calls Tryz.prog 18 #[vecV n0 n1 n2, .int .i64 i, byteV u0 u1 u2] w fun e w' => e = .returned (.int .i64 (movN n0 n1 n2 i ((u0 % n0 * n1 + u1 % n1) * n2 + u2 % n2) : Nat)) ∧ Bel w w' := by
  obtain ⟨⟨a1, a2, a3, a4⟩, ⟨b1, b2, b3, b4⟩, c1, c2, c3, c4⟩ := place_facts hs hi
  obtain ⟨l0, l1, l2, _⟩ := place_parts hs hi
  have hlt0 : ((i / n2 / n1) + u0) % n0 < n0 := Nat.mod_lt _ hs.a.1
  have hlt1 : ((i / n2 % n1) + u1) % n1 < n1 := Nat.mod_lt _ hs.b.1
  have q0 := mov_round 0 n0 (i / n2 / n1) u0 (by omega) hs.a l0 hu.1
  have q1 := mov_round (((i / n2 / n1) + u0) % n0) n1 (i / n2 % n1) u1 (by have := hs.a.2; omega) hs.b l1 hu.2.1
  have q2 := mov_round (((i / n2 / n1) + u0) % n0 * n1 + ((i / n2 % n1) + u1) % n1) n2 (i % n2) u2 (by
    have h1 := hs.a.2
    have h2 := hs.b.2
    have h3 : ((i / n2 / n1) + u0) % n0 * n1 ≤ 192 * 192 := Nat.mul_le_mul (by omega) h2
    omega) hs.c l2 hu.2.2
  have HO : (((i / n2 / n1) + u0) % n0 * n1 + ((i / n2 % n1) + u1) % n1) * n2 + ((i % n2) + u2) % n2 = movN n0 n1 n2 i ((u0 % n0 * n1 + u1 % n1) * n2 + u2 % n2) := mov_sides hs.a.1 hs.b.1 hs.c.1
  rw [Nat.zero_mul, Nat.zero_add] at q0
  rw [← HO]
  have HN : Hid (1 ≤ n0 ∧ 1 ≤ n1 ∧ 1 ≤ n2) := ⟨hs.a.1, hs.b.1, hs.c.1⟩
  clear HO hlt0 hlt1 l0 l1 l2
  generalize (((i / n2 / n1) + u0) % n0 * n1 + ((i / n2 % n1) + u1) % n1) * n2 + ((i % n2) + u2) % n2 = t3 at *
  generalize (((i / n2 / n1) + u0) % n0 * n1 + ((i / n2 % n1) + u1) % n1) * n2 = y2 at *
  generalize ((i % n2) + u2) % n2 = g2 at *
  generalize ((i / n2 / n1) + u0) % n0 * n1 + ((i / n2 % n1) + u1) % n1 = t2 at *
  generalize ((i / n2 / n1) + u0) % n0 * n1 = y1 at *
  generalize ((i / n2 % n1) + u1) % n1 = g1 at *
  generalize ((i / n2 / n1) + u0) % n0 = t1 at *
  generalize i / n2 / n1 + u0 = s0 at *
  generalize i / n2 % n1 + u1 = s1 at *
  generalize i % n2 + u2 = s2 at *
  have HR0 := Lib.hid q0
  have HR1 := Lib.hid q1
  have HR2 := Lib.hid q2
  clear q0 q1 q2
  generalize n1 * n2 = pp at a1 a2 a4
  generalize i / n2 / n1 = x at *
  generalize i / n2 % n1 = y at *
  generalize i % n2 = z at *
  generalize i / n2 = q at *
  clear hs hi hu
  have K : Hid (V3 ((w.alloc (.cells #[.int .i64 n0, .int .i64 n1, .int .i64 n2] 23)).alloc (.cells #[.int .u8 u0, .int .u8 u1, .int .u8 u2] 48)) w.heap.size n0 n1 n2) := (v3_new _ _ _ _ _).bel ((Bel.refl _).alloc _)
  have z1 : (w.alloc (.cells #[.int .i64 n0, .int .i64 n1, .int .i64 n2] 23)).heap.size = w.heap.size + 1 := size_alloc' _ _
  have K3 : Hid (B3 ((w.alloc (.cells #[.int .i64 n0, .int .i64 n1, .int .i64 n2] 23)).alloc (.cells #[.int .u8 u0, .int .u8 u1, .int .u8 u2] 48)) (w.heap.size + 1) u0 u1 u2) := by rw [← z1]; exact b3_new _ _ _ _ _
  have HB : Hid (Bel w ((w.alloc (.cells #[.int .i64 n0, .int .i64 n1, .int .i64 n2] 23)).alloc (.cells #[.int .u8 u0, .int .u8 u1, .int .u8 u2] 48))) := ((Bel.refl w).alloc _).alloc _
  clear z1
  go_enter Tryz.func18, Tryz.ntmps18
  go_wp2_with fail
  generalize World.alloc _ _ = W at K K3 HB ⊢
  generalize w.heap.size + 1 = p3 at K3 ⊢
  generalize w.heap.size = p2 at K ⊢
  obtain ⟨k0, k1, k2⟩ := K.out
  have hp2 : p2 < W.heap.size := by simpa using World.block_lt_of_cell? _ _ k0
  go_cut [7] from 10 to 28 (fun s5 wx => MadeV W wx x y z s5)
  case first =>
    go_region
    go_wp2_with fail
    go_meet
    exact ⟨_, rfl, (v3_new _ _ _ _ _).bel (Bel.refl _).drew, ((Bel.refl _).alloc _).drew, Nat.le_refl _⟩
  case rest =>
    obtain ⟨p5, rfl, K5', hb5, _⟩ := hcut
    have K5 := Lib.hid K5'
    have HB5 := Lib.hid hb5
    clear K5' hb5 a1 a2 a3 a4 b1 b2 b3 b4 c1 c2 c3 c4 k0 k1 k2 hp2
    go_wp2_with fail
    go_loopw [8, 29] (fun s i wr => ∃ (j t : Nat), i = .int .i64 j ∧ s = .int .i64 t ∧ ((j = 0 ∧ t = 0) ∨ (j = 1 ∧ t = t1) ∨ (j = 2 ∧ t = t2) ∨ (j = 3 ∧ t = t3)) ∧ Bel wc wr) (fun _ i _ => 3 - (intOf i).toNat)
    case atStart => exact ⟨0, 0, rfl, rfl, Or.inl ⟨rfl, rfl⟩, Bel.refl _⟩
    case round =>
    obtain ⟨j, t, rfl, rfl, ht, hbw⟩ := hrel
    have k2 := (K.out.bel HB5.out).bel hbw
    have k5 := K5.out.bel hbw
    have k3 := (K3.out.bel HB5.out).bel hbw
    have HBW := Lib.hid hbw
    clear hbw
    rcases ht with ⟨rfl, rfl⟩ | ⟨rfl, ht⟩ | ⟨rfl, ht⟩ | ⟨rfl, ht⟩
    · obtain ⟨m1, ⟨m2, m6⟩, m3, m4, m5⟩ := HR0.out
      have hne : ¬ n0 = 0 := by have := HN.out; omega
      have c0 : ∀ v : In wr, v.w.cell? ⟨p2, 0, none⟩ = some (.int .i64 n0) := In.cellv k2.1
      have c1 : ∀ v : In wr, v.w.cell? ⟨p5, 0, none⟩ = some (.int .i64 x) := In.cellv k5.1
      have c2 : ∀ v : In wr, v.w.cell? ⟨p3, 0, none⟩ = some (.int .u8 u0) := In.cellv k3.1
      clear k2 k5 k3
      go_wp2_with fail
      refine wp_in (by kernel_rfl) (by kernel_rfl) ?_
      repeat (go_big_quiet_step (fail))
      refine wpQuiet_nil ?_
      intro vq
      have HV := Lib.hid vq.h
      obtain ⟨wz, hwz⟩ : ∃ wz, vq.w = wz := ⟨_, rfl⟩
      rw [hwz] at HV ⊢
      clear hwz c0 c1 c2
      go_wp2_with fail
      go_roundw
      case rel => exact ⟨1, _, rfl, rfl, Or.inr (Or.inl ⟨rfl, rfl⟩), HBW.out.trans HV.out⟩
      case measure => simp [intOf]
    · have ht2 := ht.symm
      clear ht
      subst ht2
      obtain ⟨m1, ⟨m2, m6⟩, m3, m4, m5⟩ := HR1.out
      have hne : ¬ n1 = 0 := by have := HN.out; omega
      have c0 : ∀ v : In wr, v.w.cell? ⟨p2, 1, none⟩ = some (.int .i64 n1) := In.cellv k2.2.1
      have c1 : ∀ v : In wr, v.w.cell? ⟨p5, 1, none⟩ = some (.int .i64 y) := In.cellv k5.2.1
      have c2 : ∀ v : In wr, v.w.cell? ⟨p3, 1, none⟩ = some (.int .u8 u1) := In.cellv k3.2.1
      clear k2 k5 k3
      go_wp2_with fail
      refine wp_in (by kernel_rfl) (by kernel_rfl) ?_
      repeat (go_big_quiet_step (fail))
      refine wpQuiet_nil ?_
      intro vq
      have HV := Lib.hid vq.h
      obtain ⟨wz, hwz⟩ : ∃ wz, vq.w = wz := ⟨_, rfl⟩
      rw [hwz] at HV ⊢
      clear hwz c0 c1 c2
      go_wp2_with fail
      go_roundw
      case rel => exact ⟨2, _, rfl, rfl, Or.inr (Or.inr (Or.inl ⟨rfl, rfl⟩)), HBW.out.trans HV.out⟩
      case measure => simp [intOf]
    · have ht2 := ht.symm
      clear ht
      subst ht2
      obtain ⟨m1, ⟨m2, m6⟩, m3, m4, m5⟩ := HR2.out
      have hne : ¬ n2 = 0 := by have := HN.out; omega
      have c0 : ∀ v : In wr, v.w.cell? ⟨p2, 2, none⟩ = some (.int .i64 n2) := In.cellv k2.2.2
      have c1 : ∀ v : In wr, v.w.cell? ⟨p5, 2, none⟩ = some (.int .i64 z) := In.cellv k5.2.2
      have c2 : ∀ v : In wr, v.w.cell? ⟨p3, 2, none⟩ = some (.int .u8 u2) := In.cellv k3.2.2
      clear k2 k5 k3
      go_wp2_with fail
      refine wp_in (by kernel_rfl) (by kernel_rfl) ?_
      repeat (go_big_quiet_step (fail))
      refine wpQuiet_nil ?_
      intro vq
      have HV := Lib.hid vq.h
      obtain ⟨wz, hwz⟩ : ∃ wz, vq.w = wz := ⟨_, rfl⟩
      rw [hwz] at HV ⊢
      clear hwz c0 c1 c2
      go_wp2_with fail
      go_roundw
      case rel => exact ⟨3, _, rfl, rfl, Or.inr (Or.inr (Or.inr ⟨rfl, rfl⟩)), HBW.out.trans HV.out⟩
      case measure => simp [intOf]
    · have ht2 := ht.symm
      clear ht
      subst ht2
      clear k2 k5 k3
      go_wp2_with fail
      go_ret
      exact ⟨rfl, (HB.out.trans HB5.out).trans HBW.out⟩

end Go.Proofs.YtehiabiahipkhaaGreat
