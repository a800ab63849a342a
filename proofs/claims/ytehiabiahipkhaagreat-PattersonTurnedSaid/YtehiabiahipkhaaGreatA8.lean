/-
  THE PLAIN LAW of the exact transforms: residues modulo the prime; ntt.line makes the sums.
  THE PLAIN LAW of the exact transforms: the roots, their sums, what is folded along one line.
  THE PLAIN LAW of the exact transforms: what a transform along an edge makes of a grid, place by place.
  THE PLAIN LAW of the exact transforms: ntt.Fold makes the sums of products round the cell.
  THE PLAIN LAW of the exact transforms: ntt.Fold makes the sums of products round the cell, as whole numbers.
-/
import Derived.Test.YtehiabiahipkhaaGreatA2
import Derived.Test.YtehiabiahipkhaaGreatA3
import Derived.Test.YtehiabiahipkhaaGreatA6
namespace Go.Proofs.YtehiabiahipkhaaGreat
set_option linter.unusedVariables false
set_option linter.unusedSimpArgs false

instance : NeZero pr := ⟨by decide⟩
/-- Residues modulo the prime. -/
abbrev Z := Fin pr
def zc (a : Nat) : Z := Fin.ofNat pr a
theorem zc_val (a : Nat) : (zc a).val = a % pr := rfl
theorem zc_ext {a b : Z} (h : a.val = b.val) : a = b := Fin.ext h
theorem zc_inj {a b : Nat} (ha : a < pr) (hb : b < pr) (h : zc a = zc b) : a = b := by
  have := congrArg Fin.val h
  rw [zc_val, zc_val, Nat.mod_eq_of_lt ha, Nat.mod_eq_of_lt hb] at this
  exact this
theorem zc_mod (a : Nat) : zc (a % pr) = zc a := zc_ext (by rw [zc_val, zc_val, Nat.mod_mod])
theorem zc_add (a b : Nat) : zc (a + b) = zc a + zc b := zc_ext (by rw [zc_val, Fin.val_add, zc_val, zc_val, ← Nat.add_mod])
theorem zc_mul (a b : Nat) : zc (a * b) = zc a * zc b := zc_ext (by rw [zc_val, Fin.val_mul, zc_val, zc_val, ← Nat.mul_mod])
theorem zc_zero : zc 0 = 0 := zc_ext (by rw [zc_val]; rfl)
theorem zc_one : zc 1 = 1 := zc_ext (by rw [zc_val]; rfl)
theorem zc_pr : zc pr = 0 := zc_ext (by rw [zc_val, Nat.mod_self]; rfl)
theorem zc_sub (a : Nat) {b : Nat} (h : b ≤ pr) : zc (a + (pr - b)) = zc a - zc b := by
  have e : zc (a + (pr - b)) + zc b = zc a := by
    rw [← zc_add, Nat.add_assoc, Nat.sub_add_cancel h, zc_add, zc_pr]; grind
  grind
theorem zc_mulP (a b : Nat) : zc (mulP a b) = zc a * zc b := by unfold mulP; rw [zc_mod, zc_mul]
theorem zc_addP (a b : Nat) : zc (addP a b) = zc a + zc b := by unfold addP; rw [zc_mod, zc_add]
theorem zc_subP (a : Nat) {b : Nat} (h : b < pr) : zc (subP a b) = zc a - zc b := by unfold subP; rw [zc_mod, zc_sub a (Nat.le_of_lt h)]

/-- Powers of residues. -/
def zp (v : Z) : Nat → Z
  | 0 => 1
  | k + 1 => zp v k * v
theorem zp_zero (v : Z) : zp v 0 = 1 := rfl
theorem zp_one (v : Z) : zp v 1 = v := by show 1 * v = v; grind
theorem zp_add (v : Z) (a b : Nat) : zp v (a + b) = zp v a * zp v b := by
  induction b with
  | zero => show zp v a = zp v a * 1; grind
  | succ b ih => show zp v (a + b) * v = zp v a * (zp v b * v); rw [ih]; grind
theorem zp_base (v w : Z) (k : Nat) : zp (v * w) k = zp v k * zp w k := by
  induction k with
  | zero => show (1 : Z) = 1 * 1; grind
  | succ k ih => show zp (v * w) k * (v * w) = zp v k * v * (zp w k * w); rw [ih]; grind
theorem zp_mul (v : Z) (a b : Nat) : zp v (a * b) = zp (zp v a) b := by
  induction b with
  | zero => rfl
  | succ b ih => rw [Nat.mul_succ, zp_add, ih]; rfl
theorem zp_of_one (k : Nat) : zp 1 k = 1 := by
  induction k with
  | zero => rfl
  | succ k ih => show zp 1 k * 1 = 1; rw [ih]; grind
theorem zp_sq (v : Z) (k : Nat) : zp (v * v) k = zp v (2 * k) := by
  rw [zp_base, ← zp_add]; congr 1; omega
theorem zc_pow (x n : Nat) : zc (x ^ n) = zp (zc x) n := by
  induction n with
  | zero => exact zc_one
  | succ n ih => rw [Nat.pow_succ, zc_mul, ih]; rfl
theorem zc_powP (x n : Nat) : zc (powP x n) = zp (zc x) n := by unfold powP; rw [zc_mod, zc_pow]
theorem zc_atN (st k : Nat) : zc (atN st k) = zp (zc st) k := by
  induction k with
  | zero => exact zc_one
  | succ k ih => show zc (mulP (atN st k) st) = _; rw [zc_mulP, ih]; rfl

theorem z_add_zero (a : Z) : a + 0 = a := by grind
/-- Sums of residues. -/
def zs (f : Nat → Z) : Nat → Z
  | 0 => 0
  | n + 1 => zs f n + f n
theorem zs_congr {f g : Nat → Z} {n : Nat} (h : ∀ k, k < n → f k = g k) : zs f n = zs g n := by
  induction n with
  | zero => rfl
  | succ n ih => show zs f n + f n = zs g n + g n; rw [ih fun k hk => h k (by omega), h n (by omega)]
theorem zs_add (f g : Nat → Z) (n : Nat) : zs (fun k => f k + g k) n = zs f n + zs g n := by
  induction n with
  | zero => exact (z_add_zero 0).symm
  | succ n ih => show zs (fun k => f k + g k) n + (f n + g n) = zs f n + f n + (zs g n + g n); rw [ih]; grind
theorem zs_mul (c : Z) (f : Nat → Z) (n : Nat) : zs (fun k => c * f k) n = c * zs f n := by
  induction n with
  | zero => show (0 : Z) = c * 0; grind
  | succ n ih => show zs (fun k => c * f k) n + c * f n = c * (zs f n + f n); rw [ih]; grind
theorem zs_mulr (c : Z) (f : Nat → Z) (n : Nat) : zs (fun k => f k * c) n = zs f n * c := by
  induction n with
  | zero => show (0 : Z) = 0 * c; grind
  | succ n ih => show zs (fun k => f k * c) n + f n * c = (zs f n + f n) * c; rw [ih]; grind
theorem zs_zero (n : Nat) : zs (fun _ => 0) n = 0 := by
  induction n with
  | zero => rfl
  | succ n ih => show zs (fun _ => 0) n + 0 = 0; rw [ih]; exact z_add_zero 0
theorem zs_swap (f : Nat → Nat → Z) (a b : Nat) : zs (fun i => zs (fun j => f i j) b) a = zs (fun j => zs (fun i => f i j) a) b := by
  induction a with
  | zero => exact (zs_zero b).symm
  | succ a ih => show zs (fun i => zs (fun j => f i j) b) a + zs (fun j => f a j) b = zs (fun j => zs (fun i => f i j) a + f a j) b; rw [ih, zs_add]
theorem zs_parted (f : Nat → Z) (h : Nat) : zs f (2 * h) = zs (fun k => f (2 * k)) h + zs (fun k => f (2 * k + 1)) h := by
  induction h with
  | zero => exact (z_add_zero 0).symm
  | succ h ih =>
    have e : zs f (2 * (h + 1)) = zs f (2 * h) + f (2 * h) + f (2 * h + 1) := rfl
    have e1 : zs (fun k => f (2 * k)) (h + 1) = zs (fun k => f (2 * k)) h + f (2 * h) := rfl
    have e2 : zs (fun k => f (2 * k + 1)) (h + 1) = zs (fun k => f (2 * k + 1)) h + f (2 * h + 1) := rfl
    rw [e, e1, e2, ih]; grind
theorem zc_nS (xs : List Nat) (st k : Nat) : zc (nS xs st k) = zs (fun i => zc (xs.getD i 0) * zp (zc st) i) k := by
  induction k with
  | zero => exact zc_zero
  | succ k ih => show zc (addP (nS xs st k) (mulP (xs.getD k 0) (atN st k))) = _; rw [zc_addP, zc_mulP, zc_atN, ih]; rfl

/-- What a transform of n numbers asks of its root. -/
def Rt (v : Z) (n : Nat) : Prop := zp v n = 1 ∧ (n % 2 = 0 → zp v (n / 2) = -1)
theorem Rt.half {v : Z} {h : Nat} (r : Rt v (2 * h)) : Rt (v * v) h := by
  refine ⟨by rw [zp_sq]; exact r.1, fun he => ?_⟩
  rw [zp_sq, show 2 * (h / 2) = h by omega]
  have := r.2 (by omega)
  rwa [show 2 * h / 2 = h by omega] at this

/-- The sums. -/
def dft (x : Nat → Z) (v : Z) (n j : Nat) : Z := zs (fun k => x k * zp v (j * k)) n
theorem dft_congr {x y : Nat → Z} {v : Z} {n j : Nat} (h : ∀ k, k < n → x k = y k) : dft x v n j = dft y v n j :=
  zs_congr fun k hk => by rw [h k hk]
theorem dft_parted (x : Nat → Z) (v : Z) (h j : Nat) : dft x v (2 * h) j = dft (fun k => x (2 * k)) (v * v) h j + zp v j * dft (fun k => x (2 * k + 1)) (v * v) h j := by
  unfold dft
  rw [zs_parted, ← zs_mul]
  congr 1
  · refine zs_congr fun k _ => ?_
    show x (2 * k) * zp v (j * (2 * k)) = x (2 * k) * zp (v * v) (j * k)
    rw [zp_sq, show j * (2 * k) = 2 * (j * k) by grind]
  · refine zs_congr fun k _ => ?_
    show x (2 * k + 1) * zp v (j * (2 * k + 1)) = zp v j * (x (2 * k + 1) * zp (v * v) (j * k))
    rw [zp_sq, show j * (2 * k + 1) = 2 * (j * k) + j by grind, zp_add]; grind
theorem dft_round (x : Nat → Z) (v : Z) (n j : Nat) (h : zp v n = 1) : dft x v n (j + n) = dft x v n j :=
  zs_congr fun k _ => by rw [Nat.add_mul, zp_add, zp_mul v n k, h, zp_of_one]; grind

theorem nline_dft (f : Nat) : ∀ (xs : List Nat) (v n : Nat), xs.length = n → 0 < n → n < 2 ^ f → Rt (zc v) n → ∀ j, j < n → zc ((nline f xs v).getD j 0) = dft (fun k => zc (xs.getD k 0)) (zc v) n j := by
  induction f with
  | zero => intro xs v n hn h0 hf; have h1 : n < 1 := hf; omega
  | succ f ih =>
    intro xs v n hn h0 hf hr j hj
    unfold nline
    rw [hn]
    split
    · rename_i hodd
      rw [List.getD_eq_getElem?_getD]
      simp only [List.getElem?_map, List.getElem?_range hj, Option.map_some, Option.getD_some]
      rw [zc_nS]
      refine zs_congr fun k _ => ?_
      rw [zc_powP, ← zp_mul]
    · rename_i hodd
      obtain ⟨h, hh⟩ : ∃ h, n / 2 = h := ⟨_, rfl⟩
      have hn2 : n = 2 * h := by omega
      rw [hh]
      subst hn2
      have hhf : h < 2 ^ f := by rw [Nat.pow_succ] at hf; omega
      have r2 := hr.half
      have hm : zp (zc v) h = -1 := by have := hr.2 (by omega); rwa [show 2 * h / 2 = h by omega] at this
      have he : ∀ j, j < h → zc ((nline f (partA xs 0 h) (mulP v v)).getD j 0) = dft (fun k => zc (xs.getD (2 * k) 0)) (zc v * zc v) h j := fun j hj => by
        rw [ih (partA xs 0 h) (mulP v v) h (partA_length _ _ _) (by omega) hhf (by rw [zc_mulP]; exact r2) j hj, zc_mulP]
        exact dft_congr fun k hk => by rw [partA_get _ _ _ _ hk, Nat.zero_add]
      have ho : ∀ j, j < h → zc ((nline f (partA xs 1 h) (mulP v v)).getD j 0) = dft (fun k => zc (xs.getD (2 * k + 1) 0)) (zc v * zc v) h j := fun j hj => by
        rw [ih (partA xs 1 h) (mulP v v) h (partA_length _ _ _) (by omega) hhf (by rw [zc_mulP]; exact r2) j hj, zc_mulP]
        exact dft_congr fun k hk => by rw [partA_get _ _ _ _ hk, Nat.add_comm]
      rw [dft_parted]
      simp only []
      rw [List.getD_eq_getElem?_getD]
      by_cases hjh : j < h
      · rw [List.getElem?_append_left (by simp; exact hjh)]
        simp only [List.getElem?_map, List.getElem?_range hjh, Option.map_some, Option.getD_some]
        rw [zc_addP, zc_mulP, zc_atN, he j hjh, ho j hjh]
      · obtain ⟨i, rfl⟩ : ∃ i, j = i + h := ⟨j - h, by omega⟩
        have hi : i < h := by omega
        rw [List.getElem?_append_right (by simp)]
        simp only [List.length_map, List.length_range, Nat.add_sub_cancel, List.getElem?_map, List.getElem?_range hi, Option.map_some, Option.getD_some]
        rw [zc_subP _ (mulP_lt _ _), zc_mulP, zc_atN, he i hi, ho i hi, dft_round _ _ _ _ r2.1, dft_round _ _ _ _ r2.1, zp_add, hm]
        grind

end Go.Proofs.YtehiabiahipkhaaGreat

namespace Go.Proofs.YtehiabiahipkhaaGreat
set_option linter.unusedVariables false
set_option linter.unusedSimpArgs false

/-- Powers, reckoned by squares. -/
def powF : Nat → Nat → Nat → Nat
  | 0, _, _ => 1
  | f + 1, x, n => if n % 2 = 1 then mulP (powF f (mulP x x) (n / 2)) x else powF f (mulP x x) (n / 2)
theorem powF_zp (f : Nat) : ∀ x n, n < 2 ^ f → zc (powF f x n) = zp (zc x) n := by
  induction f with
  | zero => intro x n h; have h1 : n < 1 := h; obtain rfl : n = 0 := by omega
            exact zc_one
  | succ f ih =>
    intro x n h
    have h2 : n / 2 < 2 ^ f := by rw [Nat.pow_succ] at h; omega
    unfold powF
    split
    · rename_i ho
      rw [zc_mulP, ih _ _ h2, zc_mulP, zp_sq]
      conv => rhs; rw [show n = 2 * (n / 2) + 1 by omega]
      rfl
    · rename_i ho
      rw [ih _ _ h2, zc_mulP, zp_sq, show 2 * (n / 2) = n by omega]

/-- The 192nd root, and the prime less one over 192. -/
def gE : Nat := 96076792028200960
def gG : Nat := powF 57 7 gE
theorem gE_eq : gE * 192 = 18446744069414584320 := by decide
theorem zc_gG : zc gG = zp (zc 7) gE := powF_zp 57 7 gE (by decide)
theorem g192 : zp (zc gG) 192 = 1 := by
  have h : powF 8 gG 192 = 1 := by decide +kernel
  rw [← powF_zp 8 gG 192 (by decide), h, zc_one]
theorem g96 : zp (zc gG) 96 = -1 := by
  have h : zc (powF 8 gG 96 + 1) = 0 := by
    rw [show powF 8 gG 96 + 1 = pr by decide +kernel, zc_pr]
  rw [zc_add, powF_zp 8 gG 96 (by decide), zc_one] at h
  grind
theorem gInv : ∀ e, e < 191 → mulP (subP (powF 8 gG (e + 1)) 1) (powF 64 (subP (powF 8 gG (e + 1)) 1) 18446744069414584319) = 1 := by decide +kernel
theorem nInv : ∀ n, n < 192 → mulP (n + 1) (powF 64 (n + 1) 18446744069414584319) = 1 := by decide +kernel
theorem g_unit (e : Nat) (h0 : 0 < e) (h : e < 192) : ∃ u : Z, (zp (zc gG) e - 1) * u = 1 := by
  have := congrArg zc (gInv (e - 1) (by omega))
  rw [show e - 1 + 1 = e by omega, zc_mulP, zc_subP _ (by decide), powF_zp 8 gG e (by omega), zc_one] at this
  exact ⟨_, this⟩

/-- The lengths. -/
def Dv (n : Nat) : Prop := 0 < n ∧ n ≤ 192 ∧ 192 % n = 0
theorem Dv.mul {n : Nat} (h : Dv n) : 192 / n * n = 192 := by
  have := Nat.div_add_mod 192 n
  rw [h.2.2, Nat.mul_comm] at this
  exact this
theorem root_g {n : Nat} (h : Dv n) : zc (rootN n) = zp (zc gG) (192 / n) := by
  unfold rootN
  rw [zc_powP, zc_gG, ← zp_mul]
  congr 1
  have e : 18446744069414584320 = gE * (192 / n) * n := by rw [Nat.mul_assoc, h.mul, gE_eq]
  rw [e, Nat.mul_div_cancel _ h.1]
theorem root_pow {n : Nat} (h : Dv n) (k : Nat) : zp (zc (rootN n)) k = zp (zc gG) (192 / n * k) := by rw [root_g h, ← zp_mul]
theorem root_Rt {n : Nat} (h : Dv n) : Rt (zc (rootN n)) n := by
  refine ⟨by rw [root_pow h, h.mul, g192], fun he => ?_⟩
  rw [root_pow h, ← g96]
  congr 1
  have := h.mul
  have e : 192 / n * (n / 2) * 2 = 192 := by rw [Nat.mul_assoc, show n / 2 * 2 = n by omega]; exact this
  omega
theorem back_Rt {v : Z} {n : Nat} (h0 : 0 < n) (h : Rt v n) : Rt (zp v (n - 1)) n := by
  refine ⟨by rw [← zp_mul, Nat.mul_comm, zp_mul, h.1, zp_of_one], fun he => ?_⟩
  rw [← zp_mul, Nat.mul_comm, zp_mul, h.2 he]
  obtain ⟨m, rfl⟩ : ∃ m, n = 2 * m + 2 := ⟨(n - 2) / 2, by omega⟩
  rw [show 2 * m + 2 - 1 = 2 * m + 1 by omega, zp_add, zp_mul]
  have e : zp (-1 : Z) 2 = 1 := by show (1 : Z) * -1 * -1 = 1; grind
  rw [e, zp_of_one, zp_one]; grind

theorem z_mul_zero (a : Z) : a * 0 = 0 := by grind
theorem z_zero_mul (a : Z) : 0 * a = 0 := by grind
theorem z_sub_self (a : Z) : a - a = 0 := by grind
theorem z_zero_add (a : Z) : 0 + a = a := by grind
/-- All powers of a root that is no power of its own length add up to nothing. -/
theorem geo (q : Z) (n : Nat) : (q - 1) * zs (fun k => zp q k) n = zp q n - 1 := by
  induction n with
  | zero => show (q - 1) * 0 = 1 - 1; rw [z_mul_zero, z_sub_self]
  | succ n ih => show (q - 1) * (zs (fun k => zp q k) n + zp q n) = zp q n * q - 1; grind
theorem zs_one (n : Nat) : zs (fun _ => 1) n = zc n := by
  induction n with
  | zero => exact zc_zero.symm
  | succ n ih => show zs (fun _ => 1) n + 1 = _; rw [ih, zc_add, zc_one]
theorem orth {n : Nat} (h : Dv n) (m : Nat) : zs (fun k => zp (zc (rootN n)) (m * k)) n = if m % n = 0 then zc n else 0 := by
  have r := root_Rt h
  have e : ∀ k, zp (zc (rootN n)) (m * k) = zp (zp (zc (rootN n)) (m % n)) k := fun k => by
    rw [zp_mul]
    congr 1
    conv => lhs; rw [← Nat.div_add_mod m n]
    rw [zp_add, zp_mul, r.1, zp_of_one]; grind
  rw [zs_congr fun k _ => e k]
  split
  · rename_i h0
    rw [h0, zp_zero, ← zs_one]
    exact zs_congr fun k _ => zp_of_one k
  · rename_i h0
    have hlt : m % n < n := Nat.mod_lt _ h.1
    have hm := h.mul
    have l1 : 0 < 192 / n * (m % n) := Nat.mul_pos (by rcases Nat.eq_zero_or_pos (192 / n) with hz | hz; · rw [hz] at hm; omega
                                                       · exact hz) (by omega)
    have l2 : 192 / n * (m % n) < 192 := by
      have : 192 / n * (m % n) < 192 / n * n := Nat.mul_lt_mul_of_pos_left hlt (by rcases Nat.eq_zero_or_pos (192 / n) with hz | hz; · rw [hz] at hm; omega
                                                                                   · exact hz)
      omega
    obtain ⟨u, hu⟩ := g_unit _ l1 l2
    rw [← root_pow h] at hu
    have g := geo (zp (zc (rootN n)) (m % n)) n
    rw [← zp_mul, Nat.mul_comm, zp_mul, r.1, zp_of_one] at g
    rw [z_sub_self] at g
    generalize zs (fun k => zp (zp (zc (rootN n)) (m % n)) k) n = s at *
    generalize zp (zc (rootN n)) (m % n) - 1 = q at *
    have e1 : s = q * s * u := by grind
    rw [e1, g, z_zero_mul]

/-- The inverse of a length. -/
def nI (n : Nat) : Z := zp (zc n) 18446744069414584319
theorem nI_mul {n : Nat} (h : Dv n) : zc n * nI n = 1 := by
  have := congrArg zc (nInv (n - 1) (by have := h.1; have := h.2.1; omega))
  rw [show n - 1 + 1 = n by have := h.1; omega, zc_mulP, powF_zp 64 n _ (by decide), zc_one] at this
  exact this
/-- The inverse transform of sums. -/
def idft (y : Nat → Z) (n j : Nat) : Z := dft y (zp (zc (rootN n)) (n - 1)) n j * nI n

theorem pick {n : Nat} (h0 : 0 < n) (b : Nat → Z) (c : Nat) (N : Z) : zs (fun y => b y * (if (c + y) % n = 0 then N else 0)) n = b ((n - c % n) % n) * N := by
  obtain ⟨t, ht⟩ : ∃ t, (n - c % n) % n = t := ⟨_, rfl⟩
  have htn : t < n := by rw [← ht]; exact Nat.mod_lt _ h0
  have hc : c % n < n := Nat.mod_lt _ h0
  have key : ∀ y, y < n → ((c + y) % n = 0 ↔ y = t) := fun y hy => by
    have e : (c + y) % n = (c % n + y) % n := by rw [Nat.mod_add_mod]
    rw [e, ← ht]
    generalize c % n = d at *
    by_cases hd : d = 0
    · subst hd
      rw [Nat.zero_add, Nat.mod_eq_of_lt hy, Nat.sub_zero, Nat.mod_self]
    · rw [Nat.mod_eq_of_lt (show n - d < n by omega)]
      by_cases hl : d + y < n
      · rw [Nat.mod_eq_of_lt hl]; omega
      · have : (d + y) % n = d + y - n := by
          rw [Nat.mod_eq_sub_mod (by omega), Nat.mod_eq_of_lt (by omega)]
        omega
  rw [ht]
  have main : ∀ m, m ≤ n → zs (fun y => b y * (if (c + y) % n = 0 then N else 0)) m = if t < m then b t * N else 0 := by
    intro m
    induction m with
    | zero => intro _; simp [zs]
    | succ m ih =>
      intro hm
      show zs _ m + b m * (if (c + m) % n = 0 then N else 0) = _
      rw [ih (by omega)]
      by_cases hmt : m = t
      · subst hmt
        rw [if_pos ((key m (by omega)).2 rfl), if_neg (by omega), if_pos (by omega), z_zero_add]
      · rw [if_neg (fun h => hmt ((key m (by omega)).1 h))]
        by_cases hl : t < m
        · rw [if_pos hl, if_pos (by omega), z_mul_zero, z_add_zero]
        · rw [if_neg hl, if_neg (by omega), z_mul_zero, z_add_zero]
  rw [main n (Nat.le_refl _), if_pos htn]

/-- THE FOLD ALONG ONE LINE. -/
theorem fold1 {n : Nat} (h : Dv n) (a b : Nat → Z) (j : Nat) (hj : j < n) :
    idft (fun k => dft a (zc (rootN n)) n k * dft b (zc (rootN n)) n k) n j = zs (fun x => a x * b ((j + n - x) % n)) n := by
  unfold idft dft
  obtain ⟨v, hv⟩ : ∃ v, zc (rootN n) = v := ⟨_, rfl⟩
  have ho := fun m => orth h m
  rw [hv] at ho ⊢
  have e1 : ∀ k, zs (fun x => a x * zp v (k * x)) n * zs (fun x => b x * zp v (k * x)) n * zp (zp v (n - 1)) (j * k) =
      zs (fun x => a x * zs (fun y => b y * zp v ((x + (n - 1) * j + y) * k)) n) n := fun k => by
    rw [← zs_mulr, ← zs_mulr]
    refine zs_congr fun x _ => ?_
    rw [show a x * zp v (k * x) * zs (fun x => b x * zp v (k * x)) n * zp (zp v (n - 1)) (j * k) = a x * (zp v (k * x) * zp (zp v (n - 1)) (j * k) * zs (fun x => b x * zp v (k * x)) n) by grind, ← zs_mul]
    congr 1
    refine zs_congr fun y _ => ?_
    rw [← zp_mul, show (x + (n - 1) * j + y) * k = k * x + (n - 1) * (j * k) + k * y by grind, zp_add, zp_add]; grind
  rw [zs_congr fun k _ => e1 k, zs_swap]
  rw [← zs_mulr]
  refine zs_congr fun x hx => ?_
  rw [zs_mul, zs_swap]
  have e2 : ∀ y, zs (fun k => b y * zp v ((x + (n - 1) * j + y) * k)) n = b y * (if (x + (n - 1) * j + y) % n = 0 then zc n else 0) := fun y => by
    rw [zs_mul, ho]
  rw [zs_congr fun y _ => e2 y, pick h.1]
  have e3 : (n - (x + (n - 1) * j) % n) % n = (j + n - x) % n := by
    have h0 := h.1
    have e4 : (x + (n - 1) * j + j) % n = x % n := by
      rw [show x + (n - 1) * j + j = x + n * j by
        obtain ⟨m, rfl⟩ : ∃ m, n = m + 1 := ⟨n - 1, by omega⟩
        rw [Nat.add_sub_cancel]; grind, Nat.add_mul_mod_self_left]
    have hx' : x % n = x := Nat.mod_eq_of_lt hx
    rw [Nat.add_mod, hx', Nat.mod_eq_of_lt hj] at e4
    have hd : (x + (n - 1) * j) % n < n := Nat.mod_lt _ h0
    generalize (x + (n - 1) * j) % n = d at *
    by_cases hl : d + j < n
    · rw [Nat.mod_eq_of_lt hl] at e4
      by_cases hd0 : d = 0
      · subst hd0
        rw [Nat.sub_zero, Nat.mod_self, show j + n - x = n by omega, Nat.mod_self]
      · rw [Nat.mod_eq_of_lt (show n - d < n by omega), show j + n - x = n - d by omega, Nat.mod_eq_of_lt (by omega)]
    · rw [Nat.mod_eq_sub_mod (by omega), Nat.mod_eq_of_lt (by omega)] at e4
      have : d ≠ 0 := by omega
      rw [Nat.mod_eq_of_lt (show n - d < n by omega), Nat.mod_eq_sub_mod (show j + n - x ≥ n by omega), Nat.mod_eq_of_lt (by omega)]
      omega
  rw [e3]
  have := nI_mul h
  grind

theorem unl_gen (E : Nat) (xs : List Nat) (n : Nat) (hn : xs.length = n) (h : Dv n) (j : Nat) (hj : j < n) :
    zc (((nline 8 xs (powP (rootN n) (n - 1))).map fun a => mulP a (powP n E)).getD j 0) = dft (fun k => zc (xs.getD k 0)) (zp (zc (rootN n)) (n - 1)) n j * zp (zc n) E := by
  have hl : (nline 8 xs (powP (rootN n) (n - 1))).length = n := by
    rw [nline_length (by rw [hn]; have := h.2.1; omega) (by rw [hn]; exact h.1), hn]
  rw [List.getD_eq_getElem?_getD, List.getElem?_map, List.getElem?_eq_getElem (by rw [hl]; exact hj)]
  simp only [Option.map_some, Option.getD_some]
  rw [zc_mulP, zc_powP n E]
  have := nline_dft 8 xs (powP (rootN n) (n - 1)) n hn h.1 (by have := h.2.1; omega) (by rw [zc_powP]; exact back_Rt h.1 (root_Rt h)) j hj
  rw [zc_powP, List.getD_eq_getElem?_getD, List.getElem?_eq_getElem (by rw [hl]; exact hj), Option.getD_some] at this
  rw [this]

/-- ntt.unline is the inverse transform. -/
theorem unline_idft (xs : List Nat) (n : Nat) (hn : xs.length = n) (h : Dv n) (j : Nat) (hj : j < n) : zc ((unlineN xs).getD j 0) = idft (fun k => zc (xs.getD k 0)) n j := by
  have := unl_gen 18446744069414584319 xs n hn h j hj
  unfold unlineN idft nI
  rw [hn]
  exact this

end Go.Proofs.YtehiabiahipkhaaGreat

namespace Go.Proofs.YtehiabiahipkhaaGreat
set_option linter.unusedVariables false
set_option linter.unusedSimpArgs false

theorem putA_get (apart : Nat) (ys : List Nat) (k : Nat) (r : List Nat) (h0 : 0 < apart) (j p : Nat) (hp : p < ys.length) :
    (∀ i, i < j → p = k + i * apart → (putA apart ys k r j).getD p 0 = r.getD i 0) ∧
    ((∀ i, i < j → p ≠ k + i * apart) → (putA apart ys k r j).getD p 0 = ys.getD p 0) := by
  induction j with
  | zero => exact ⟨fun i hi => by omega, fun _ => rfl⟩
  | succ j ih =>
    have hl := putA_length apart ys k r j
    refine ⟨fun i hi he => ?_, fun hne => ?_⟩
    · simp only [putA]
      by_cases hij : i = j
      · subst hij
        subst he
        simp [List.getD_eq_getElem?_getD, hl, hp]
      · have hne : k + j * apart ≠ p := by
          intro h
          have e : i * apart = j * apart := by omega
          exact hij (Nat.eq_of_mul_eq_mul_right h0 e)
        have := ih.1 i (by omega) he
        rw [← this]
        simp [List.getD_eq_getElem?_getD, List.getElem?_set, hne]
    · simp only [putA]
      have h1 : k + j * apart ≠ p := fun h => hne j (by omega) h.symm
      rw [← ih.2 (fun i hi => hne i (by omega))]
      simp [List.getD_eq_getElem?_getD, List.getElem?_set, h1]

/-- Where the row of a place begins. -/
def rowSt (n apart p : Nat) : Nat := p - p / apart % n * apart

theorem rowSt_form (n apart p : Nat) : p / apart % n * apart ≤ p ∧ rowSt n apart p = apart * (n * (p / apart / n)) + p % apart := by
  have h1 : p = apart * (p / apart) + p % apart := (Nat.div_add_mod p apart).symm
  have h2 : p / apart = n * (p / apart / n) + p / apart % n := (Nat.div_add_mod (p / apart) n).symm
  have e : apart * (n * (p / apart / n) + p / apart % n) = apart * (n * (p / apart / n)) + p / apart % n * apart := by rw [Nat.mul_add, Nat.mul_comm apart (p / apart % n)]
  rw [← h2] at e
  unfold rowSt
  omega

theorem rowSt_eq (n apart p : Nat) (h0 : 0 < apart) : p = rowSt n apart p + p / apart % n * apart ∧ rowSt n apart p / apart % n = 0 := by
  obtain ⟨h1, h2⟩ := rowSt_form n apart p
  refine ⟨by unfold rowSt; omega, ?_⟩
  rw [h2, Nat.mul_comm apart, Nat.add_comm, Nat.add_mul_div_right _ _ h0, Nat.div_eq_of_lt (Nat.mod_lt _ h0), Nat.zero_add, Nat.mul_mod_right]

/-- The places of a row that begins at k. -/
theorem rowSt_of (n apart k i : Nat) (h0 : 0 < apart) (hi : i < n) (hk : k / apart % n = 0) : rowSt n apart (k + i * apart) = k ∧ (k + i * apart) / apart % n = i := by
  have h1 : (k + i * apart) / apart = k / apart + i := Nat.add_mul_div_right _ _ h0
  have h2 : (k / apart + i) % n = i := by rw [Nat.add_mod, hk, Nat.zero_add, Nat.mod_mod, Nat.mod_eq_of_lt hi]
  refine ⟨?_, by rw [h1, h2]⟩
  unfold rowSt
  rw [h1, h2]; omega

/-- ALONG AN EDGE, place by place. -/
theorem alongA_spec {F : List Nat → List Nat} {n apart m : Nat} {xs : List Nat} (h0 : 0 < apart) (hn : 0 < n) (hL : xs.length = n * apart * m) :
    ∀ k, k ≤ xs.length → ∀ p, p < xs.length → (alongA F n apart xs k).getD p 0 = if rowSt n apart p < k then (F (rowA n apart xs (rowSt n apart p))).getD (p / apart % n) 0 else xs.getD p 0 := by
  intro k
  induction k with
  | zero => intro _ p _; rw [if_neg (by omega)]; rfl
  | succ k ih =>
    intro hk p hp
    have h3 := ih (by omega)
    have h2 : (alongA F n apart xs k).length = xs.length := alongA_length _ _ _ _ _
    rw [alongA]
    by_cases hz : k / apart % n = 0
    · rw [if_pos hz]
      have hrow : rowA n apart (alongA F n apart xs k) k = rowA n apart xs k := by
        unfold rowA
        refine List.map_congr_left fun i hi => ?_
        have hi' : i < n := by simpa using hi
        have hlt : k + i * apart < xs.length := by rw [hL]; exact along_ltA k apart n m i h0 (by omega) hz hi'
        rw [h3 _ hlt, (rowSt_of n apart k i h0 hi' hz).1, if_neg (by omega)]
      rw [hrow]
      have hg := putA_get apart (alongA F n apart xs k) k (F (rowA n apart xs k)) h0 n p (by rw [h2]; exact hp)
      by_cases hs : rowSt n apart p = k
      · have he := (rowSt_eq n apart p h0).1
        rw [hs] at he
        rw [hg.1 _ (Nat.mod_lt _ hn) he, hs, if_pos (by omega)]
      · have hne : ∀ i, i < n → p ≠ k + i * apart := fun i hi e => hs (by rw [e]; exact (rowSt_of n apart k i h0 hi hz).1)
        rw [hg.2 hne, h3 p hp]
        by_cases hlt : rowSt n apart p < k
        · rw [if_pos hlt, if_pos (by omega)]
        · rw [if_neg hlt, if_neg (by omega)]
    · rw [if_neg hz]
      have hs : rowSt n apart p ≠ k := fun e => hz (by rw [← e]; exact (rowSt_eq n apart p h0).2)
      rw [h3 p hp]
      by_cases hlt : rowSt n apart p < k
      · rw [if_pos hlt, if_pos (by omega)]
      · rw [if_neg hlt, if_neg (by omega)]
theorem alongA_at {F : List Nat → List Nat} {n apart m L : Nat} {xs : List Nat} (h0 : 0 < apart) (hn : 0 < n) (hl : xs.length = L) (hL : L = n * apart * m) (p : Nat) (hp : p < L) :
    (alongA F n apart xs L).getD p 0 = (F (rowA n apart xs (rowSt n apart p))).getD (p / apart % n) 0 := by
  subst hl
  rw [alongA_spec h0 hn hL xs.length (Nat.le_refl _) p hp, if_pos (by unfold rowSt; omega)]

/-- The number at a place. -/
def atA (n1 n2 : Nat) (xs : List Nat) (x y z : Nat) : Nat := xs.getD ((x * n1 + y) * n2 + z) 0

theorem place3_lt (n0 n1 n2 x y z : Nat) (hx : x < n0) (hy : y < n1) (hz : z < n2) : (x * n1 + y) * n2 + z < n0 * n1 * n2 := by
  have h1 : x * n1 + y + 1 ≤ n0 * n1 := by
    have : (x + 1) * n1 ≤ n0 * n1 := Nat.mul_le_mul_right _ hx
    rw [Nat.add_mul, Nat.one_mul] at this; omega
  have h2 : (x * n1 + y + 1) * n2 ≤ n0 * n1 * n2 := Nat.mul_le_mul_right _ h1
  rw [Nat.add_mul (x * n1 + y) 1, Nat.one_mul] at h2
  omega

theorem pl_z (n1 n2 x y z : Nat) (hz : z < n2) : ((x * n1 + y) * n2 + z) % n2 = z := by
  rw [Nat.add_comm, Nat.add_mul_mod_self_right, Nat.mod_eq_of_lt hz]
theorem pl_q (n1 n2 x y z : Nat) (hz : z < n2) : ((x * n1 + y) * n2 + z) / n2 = x * n1 + y := by
  rw [Nat.add_comm, Nat.add_mul_div_right _ _ (by omega), Nat.div_eq_of_lt hz, Nat.zero_add]
theorem pl_y (n1 x y : Nat) (hy : y < n1) : (x * n1 + y) % n1 = y := by
  rw [Nat.add_comm, Nat.add_mul_mod_self_right, Nat.mod_eq_of_lt hy]
theorem pl_x (n1 x y : Nat) (hy : y < n1) : (x * n1 + y) / n1 = x := by
  rw [Nat.add_comm, Nat.add_mul_div_right _ _ (by omega), Nat.div_eq_of_lt hy, Nat.zero_add]


theorem edge2 {F : List Nat → List Nat} {n0 n1 n2 L : Nat} {xs : List Nat} (h1 : 0 < n1) (h2 : 0 < n2) (hl : xs.length = L) (hL : n0 * n1 * n2 = L) (x y z : Nat) (hx : x < n0) (hy : y < n1) (hz : z < n2) :
    atA n1 n2 (alongA F n2 1 xs L) x y z = (F ((List.range n2).map fun z => atA n1 n2 xs x y z)).getD z 0 := by
  have hp := place3_lt _ _ _ _ _ _ hx hy hz
  rw [hL] at hp
  have g3 := alongA_at (F := F) (n := n2) (apart := 1) (m := n0 * n1) (xs := xs) (by omega) h2 hl (by rw [← hL, Nat.mul_one, Nat.mul_comm]) _ hp
  have hst : rowSt n2 1 ((x * n1 + y) * n2 + z) = (x * n1 + y) * n2 + 0 := by unfold rowSt; rw [Nat.div_one, pl_z _ _ _ _ _ hz]; omega
  rw [Nat.div_one, pl_z _ _ _ _ _ hz, hst] at g3
  unfold atA
  rw [g3]
  congr 2
  unfold rowA
  exact List.map_congr_left fun i _ => by rw [Nat.add_zero, Nat.mul_one]

theorem edge1 {F : List Nat → List Nat} {n0 n1 n2 L : Nat} {xs : List Nat} (h1 : 0 < n1) (h2 : 0 < n2) (hl : xs.length = L) (hL : n0 * n1 * n2 = L) (x y z : Nat) (hx : x < n0) (hy : y < n1) (hz : z < n2) :
    atA n1 n2 (alongA F n1 n2 xs L) x y z = (F ((List.range n1).map fun y => atA n1 n2 xs x y z)).getD y 0 := by
  have hp := place3_lt _ _ _ _ _ _ hx hy hz
  rw [hL] at hp
  have g3 := alongA_at (F := F) (n := n1) (apart := n2) (m := n0) (xs := xs) h2 h1 hl (by rw [← hL, Nat.mul_comm n1 n2, Nat.mul_comm, ← Nat.mul_assoc, Nat.mul_right_comm]) _ hp
  have hst : rowSt n1 n2 ((x * n1 + y) * n2 + z) = (x * n1 + 0) * n2 + z := by
    unfold rowSt; rw [pl_q _ _ _ _ _ hz, pl_y _ _ _ hy, Nat.add_mul, Nat.add_zero]; omega
  rw [pl_q _ _ _ _ _ hz, pl_y _ _ _ hy, hst] at g3
  unfold atA
  rw [g3]
  congr 2
  unfold rowA
  exact List.map_congr_left fun i _ => by congr 1; rw [Nat.add_zero, Nat.add_mul]; omega

theorem edge0 {F : List Nat → List Nat} {n0 n1 n2 L : Nat} {xs : List Nat} (h0 : 0 < n0) (h1 : 0 < n1) (h2 : 0 < n2) (hl : xs.length = L) (hL : n0 * n1 * n2 = L) (x y z : Nat) (hx : x < n0) (hy : y < n1) (hz : z < n2) :
    atA n1 n2 (alongA F n0 (n1 * n2) xs L) x y z = (F ((List.range n0).map fun x => atA n1 n2 xs x y z)).getD x 0 := by
  have hq : ∀ x y z, (x * n1 + y) * n2 + z = y * n2 + z + x * (n1 * n2) := by
    intro x y z
    rw [Nat.add_mul, Nat.mul_assoc]; omega
  have hyz : y * n2 + z < n1 * n2 := by
    have : (y + 1) * n2 ≤ n1 * n2 := Nat.mul_le_mul_right _ hy
    rw [Nat.add_mul, Nat.one_mul] at this; omega
  have hp := place3_lt _ _ _ _ _ _ hx hy hz
  rw [hL] at hp
  have g3 := alongA_at (F := F) (n := n0) (apart := n1 * n2) (m := 1) (xs := xs) (Nat.mul_pos h1 h2) h0 hl (by rw [← hL, Nat.mul_one, Nat.mul_assoc]) _ hp
  have hdiv : (y * n2 + z + x * (n1 * n2)) / (n1 * n2) = x := by rw [Nat.add_mul_div_right _ _ (Nat.mul_pos h1 h2), Nat.div_eq_of_lt hyz, Nat.zero_add]
  have hst : rowSt n0 (n1 * n2) (y * n2 + z + x * (n1 * n2)) = y * n2 + z := by
    unfold rowSt; rw [hdiv, Nat.mod_eq_of_lt hx]; omega
  rw [hq, hdiv, Nat.mod_eq_of_lt hx, hst] at g3
  unfold atA
  rw [hq, g3]
  congr 2
  unfold rowA
  exact List.map_congr_left fun i _ => by rw [hq]

end Go.Proofs.YtehiabiahipkhaaGreat

namespace Go.Proofs.YtehiabiahipkhaaGreat
set_option linter.unusedVariables false
set_option linter.unusedSimpArgs false

theorem dft_swap (f : Nat → Nat → Z) (v w : Z) (n m j k : Nat) : dft (fun x => dft (fun y => f x y) v n j) w m k = dft (fun y => dft (fun x => f x y) w m k) v n j := by
  unfold dft
  have e1 : ∀ x, zs (fun y => f x y * zp v (j * y)) n * zp w (k * x) = zs (fun y => f x y * zp v (j * y) * zp w (k * x)) n := fun x => (zs_mulr _ _ _).symm
  have e2 : ∀ y, zs (fun x => f x y * zp w (k * x)) m * zp v (j * y) = zs (fun x => f x y * zp w (k * x) * zp v (j * y)) m := fun y => (zs_mulr _ _ _).symm
  rw [zs_congr fun x _ => e1 x, zs_congr (g := fun y => zs (fun x => f x y * zp w (k * x) * zp v (j * y)) m) fun y _ => e2 y, zs_swap]
  exact zs_congr fun y _ => zs_congr fun x _ => by grind
theorem idft_congr {y z : Nat → Z} {n j : Nat} (h : ∀ k, k < n → y k = z k) : idft y n j = idft z n j := by
  unfold idft; rw [dft_congr h]
theorem idft_sum (g : Nat → Nat → Z) (m n j : Nat) : idft (fun k => zs (fun x => g x k) m) n j = zs (fun x => idft (fun k => g x k) n j) m := by
  unfold idft dft
  have e : ∀ k, zs (fun x => g x k) m * zp (zp (zc (rootN n)) (n - 1)) (j * k) = zs (fun x => g x k * zp (zp (zc (rootN n)) (n - 1)) (j * k)) m := fun k => (zs_mulr _ _ _).symm
  rw [zs_congr fun k _ => e k, zs_swap, ← zs_mulr]

/-- The transform along three coordinates. -/
def dft3 (A : Nat → Nat → Nat → Z) (n0 n1 n2 k0 k1 k2 : Nat) : Z :=
  dft (fun x2 => dft (fun x1 => dft (fun x0 => A x0 x1 x2) (zc (rootN n0)) n0 k0) (zc (rootN n1)) n1 k1) (zc (rootN n2)) n2 k2
/-- Two of them. -/
def dft2 (A : Nat → Nat → Nat → Z) (n1 n2 x0 k1 k2 : Nat) : Z :=
  dft (fun x2 => dft (fun x1 => A x0 x1 x2) (zc (rootN n1)) n1 k1) (zc (rootN n2)) n2 k2
theorem dft3_out (A : Nat → Nat → Nat → Z) (n0 n1 n2 k0 k1 k2 : Nat) : dft3 A n0 n1 n2 k0 k1 k2 = dft (fun x0 => dft2 A n1 n2 x0 k1 k2) (zc (rootN n0)) n0 k0 := by
  unfold dft3 dft2
  have e : ∀ x2, dft (fun x1 => dft (fun x0 => A x0 x1 x2) (zc (rootN n0)) n0 k0) (zc (rootN n1)) n1 k1 = dft (fun x0 => dft (fun x1 => A x0 x1 x2) (zc (rootN n1)) n1 k1) (zc (rootN n0)) n0 k0 := fun x2 =>
    dft_swap (fun x1 x0 => A x0 x1 x2) _ _ _ _ _ _
  rw [dft_congr fun x2 _ => e x2]
  exact dft_swap (fun x2 x0 => dft (fun x1 => A x0 x1 x2) (zc (rootN n1)) n1 k1) _ _ _ _ _ _
theorem dft2_out (A : Nat → Nat → Nat → Z) (n1 n2 x0 k1 k2 : Nat) : dft2 A n1 n2 x0 k1 k2 = dft (fun x1 => dft (fun x2 => A x0 x1 x2) (zc (rootN n2)) n2 k2) (zc (rootN n1)) n1 k1 :=
  dft_swap (fun x2 x1 => A x0 x1 x2) _ _ _ _ _ _

/-- The inverse along three coordinates. -/
def idft3 (U : Nat → Nat → Nat → Z) (n0 n1 n2 u0 u1 u2 : Nat) : Z :=
  idft (fun k2 => idft (fun k1 => idft (fun k0 => U k0 k1 k2) n0 u0) n1 u1) n2 u2

/-- THE FOLD. -/
theorem fold3 {n0 n1 n2 : Nat} (h0 : Dv n0) (h1 : Dv n1) (h2 : Dv n2) (A B : Nat → Nat → Nat → Z) (u0 u1 u2 : Nat) (l0 : u0 < n0) (l1 : u1 < n1) (l2 : u2 < n2) :
    idft3 (fun k0 k1 k2 => dft3 A n0 n1 n2 k0 k1 k2 * dft3 B n0 n1 n2 k0 k1 k2) n0 n1 n2 u0 u1 u2 =
      zs (fun x0 => zs (fun x1 => zs (fun x2 => A x0 x1 x2 * B ((u0 + n0 - x0) % n0) ((u1 + n1 - x1) % n1) ((u2 + n2 - x2) % n2)) n2) n1) n0 := by
  unfold idft3
  have e0 : ∀ k1 k2, idft (fun k0 => dft3 A n0 n1 n2 k0 k1 k2 * dft3 B n0 n1 n2 k0 k1 k2) n0 u0 = zs (fun x0 => dft2 A n1 n2 x0 k1 k2 * dft2 B n1 n2 ((u0 + n0 - x0) % n0) k1 k2) n0 := fun k1 k2 => by
    rw [← fold1 h0 (fun x0 => dft2 A n1 n2 x0 k1 k2) (fun x0 => dft2 B n1 n2 x0 k1 k2) u0 l0]
    exact idft_congr fun k0 _ => by rw [dft3_out, dft3_out]
  have e1 : ∀ k2, idft (fun k1 => idft (fun k0 => dft3 A n0 n1 n2 k0 k1 k2 * dft3 B n0 n1 n2 k0 k1 k2) n0 u0) n1 u1 =
      zs (fun x0 => zs (fun x1 => dft (fun x2 => A x0 x1 x2) (zc (rootN n2)) n2 k2 * dft (fun x2 => B ((u0 + n0 - x0) % n0) ((u1 + n1 - x1) % n1) x2) (zc (rootN n2)) n2 k2) n1) n0 := fun k2 => by
    rw [idft_congr fun k1 _ => e0 k1 k2, idft_sum]
    refine zs_congr fun x0 _ => ?_
    rw [← fold1 h1 (fun x1 => dft (fun x2 => A x0 x1 x2) (zc (rootN n2)) n2 k2) (fun x1 => dft (fun x2 => B ((u0 + n0 - x0) % n0) x1 x2) (zc (rootN n2)) n2 k2) u1 l1]
    exact idft_congr fun k1 _ => by rw [dft2_out, dft2_out]
  rw [idft_congr fun k2 _ => e1 k2, idft_sum]
  refine zs_congr fun x0 _ => ?_
  rw [idft_sum]
  refine zs_congr fun x1 _ => ?_
  exact fold1 h2 (fun x2 => A x0 x1 x2) (fun x2 => B ((u0 + n0 - x0) % n0) ((u1 + n1 - x1) % n1) x2) u2 l2

theorem map_get (g : Nat → Nat) (n i : Nat) (h : i < n) : ((List.range n).map g).getD i 0 = g i := by simp [h]
theorem nline_map {n : Nat} (h : Dv n) (g : Nat → Nat) (k : Nat) (hk : k < n) : zc ((nline 8 ((List.range n).map g) (rootN n)).getD k 0) = dft (fun i => zc (g i)) (zc (rootN n)) n k := by
  rw [nline_dft 8 _ _ n (by simp) h.1 (by have := h.2.1; omega) (root_Rt h) k hk]
  exact dft_congr fun i hi => by rw [map_get _ _ _ hi]
theorem unline_map {n : Nat} (h : Dv n) (g : Nat → Nat) (k : Nat) (hk : k < n) : zc ((unlineN ((List.range n).map g)).getD k 0) = idft (fun i => zc (g i)) n k := by
  rw [unline_idft _ n (by simp) h k hk]
  exact idft_congr fun i hi => by rw [map_get _ _ _ hi]

theorem S3.dv {n0 n1 n2 L : Nat} (h : S3 n0 n1 n2 L) : Dv n0 ∧ Dv n1 ∧ Dv n2 := ⟨⟨h.a.1, h.a.2.1, h.a.2.2⟩, ⟨h.b.1, h.b.2.1, h.b.2.2⟩, ⟨h.c.1, h.c.2.1, h.c.2.2⟩⟩

/-- forward makes the sums. -/
theorem forward_dft {n0 n1 n2 L : Nat} (hs : S3 n0 n1 n2 L) (cs : List Int) (hl : cs.length = L) (k0 k1 k2 : Nat) (l0 : k0 < n0) (l1 : k1 < n1) (l2 : k2 < n2) :
    zc (atA n1 n2 (fS3 n0 n1 n2 L cs) k0 k1 k2) = dft3 (fun x y z => zc (atA n1 n2 (fS0 cs) x y z)) n0 n1 n2 k0 k1 k2 := by
  obtain ⟨d0, d1, d2⟩ := hs.dv
  have e1 : (fS1 n0 n1 n2 L cs).length = L := by unfold fS1 fS0; rw [alongA_length, List.length_map, hl]
  have e2 : (fS2 n0 n1 n2 L cs).length = L := by unfold fS2; rw [alongA_length, e1]
  unfold dft3 fS3
  rw [edge2 d1.1 d2.1 e2 hs.p k0 k1 k2 l0 l1 l2, nline_map d2 _ _ l2]
  refine dft_congr fun x2 hx2 => ?_
  unfold fS2
  rw [edge1 d1.1 d2.1 e1 hs.p k0 k1 x2 l0 l1 hx2, nline_map d1 _ _ l1]
  refine dft_congr fun x1 hx1 => ?_
  unfold fS1
  rw [edge0 d0.1 d1.1 d2.1 (by unfold fS0; rw [List.length_map, hl]) hs.p k0 x1 x2 l0 hx1 hx2, nline_map d0 _ _ l0]

/-- ntt.Fold, modulo the prime. -/
theorem uS_fold {n0 n1 n2 L : Nat} (hs : S3 n0 n1 n2 L) (ps bs : List Int) (hp : ps.length = L) (hb : bs.length = L) (u0 u1 u2 : Nat) (l0 : u0 < n0) (l1 : u1 < n1) (l2 : u2 < n2) :
    zc (atA n1 n2 (uS3 n0 n1 n2 L ps bs) u0 u1 u2) =
      zs (fun x0 => zs (fun x1 => zs (fun x2 => zc (atA n1 n2 (fS0 ps) x0 x1 x2) * zc (atA n1 n2 (fS0 bs) ((u0 + n0 - x0) % n0) ((u1 + n1 - x1) % n1) ((u2 + n2 - x2) % n2))) n2) n1) n0 := by
  obtain ⟨d0, d1, d2⟩ := hs.dv
  have e0 := uS0_length n0 n1 n2 L ps bs
  have e1 : (uS1 n0 n1 n2 L ps bs).length = L := by unfold uS1; rw [alongA_length, e0]
  have e2 : (uS2 n0 n1 n2 L ps bs).length = L := by unfold uS2; rw [alongA_length, e1]
  rw [← fold3 d0 d1 d2 (fun x y z => zc (atA n1 n2 (fS0 ps) x y z)) (fun x y z => zc (atA n1 n2 (fS0 bs) x y z)) u0 u1 u2 l0 l1 l2]
  unfold idft3 uS3
  rw [edge2 d1.1 d2.1 e2 hs.p u0 u1 u2 l0 l1 l2, unline_map d2 _ _ l2]
  refine idft_congr fun k2 hk2 => ?_
  unfold uS2
  rw [edge1 d1.1 d2.1 e1 hs.p u0 u1 k2 l0 l1 hk2, unline_map d1 _ _ l1]
  refine idft_congr fun k1 hk1 => ?_
  unfold uS1
  rw [edge0 d0.1 d1.1 d2.1 e0 hs.p u0 k1 k2 l0 hk1 hk2, unline_map d0 _ _ l0]
  refine idft_congr fun k0 hk0 => ?_
  show _ = dft3 (fun x y z => zc (atA n1 n2 (fS0 ps) x y z)) n0 n1 n2 k0 k1 k2 * dft3 (fun x y z => zc (atA n1 n2 (fS0 bs) x y z)) n0 n1 n2 k0 k1 k2
  rw [← forward_dft hs ps hp k0 k1 k2 hk0 hk1 hk2, ← forward_dft hs bs hb k0 k1 k2 hk0 hk1 hk2, ← zc_mulP]
  unfold atA uS0
  rw [map_get _ _ _ (by rw [← hs.p]; exact place3_lt _ _ _ _ _ _ hk0 hk1 hk2)]

end Go.Proofs.YtehiabiahipkhaaGreat

namespace Go.Proofs.YtehiabiahipkhaaGreat
set_option linter.unusedVariables false
set_option linter.unusedSimpArgs false

/-- A whole number's residue. -/
def zi (z : Int) : Z := zc (z % (pr : Int)).toNat
theorem pr_posI : (0 : Int) < (pr : Int) := by have := pr_pos; omega
theorem zi_val (z : Int) : ((zi z).val : Int) = z % (pr : Int) := by
  have h0 := Int.emod_nonneg z (Int.ne_of_gt pr_posI)
  have h1 := Int.emod_lt_of_pos z pr_posI
  unfold zi
  rw [zc_val, Int.natCast_emod, Int.toNat_of_nonneg h0, Int.emod_emod_of_dvd _ (Int.dvd_refl _)]
theorem z_ext {a b : Z} (h : (a.val : Int) = (b.val : Int)) : a = b := zc_ext (by omega)
theorem zi_add (a b : Int) : zi (a + b) = zi a + zi b := z_ext (by
  rw [zi_val, Fin.val_add, Int.natCast_emod, Int.natCast_add, zi_val, zi_val, ← Int.add_emod])
theorem zi_mul (a b : Int) : zi (a * b) = zi a * zi b := z_ext (by
  rw [zi_val, Fin.val_mul, Int.natCast_emod, Int.natCast_mul, zi_val, zi_val, ← Int.mul_emod])
theorem zi_zero : zi 0 = 0 := z_ext (by rw [zi_val]; rfl)
theorem zc_resN {z : Int} (h : z.natAbs ≤ 1048576) : zc (resN z) = zi z := z_ext (by
  rw [zi_val, zc_val, Nat.mod_eq_of_lt (resN_lt h)]
  unfold resN
  split
  · rename_i hz
    have e : z % (pr : Int) = z + (pr : Int) := by
      rw [← Int.add_emod_right, Int.emod_eq_of_lt]
      · rw [pr_eq]; omega
      · omega
    rw [e, pr_eq]; omega
  · rename_i hz
    rw [Int.emod_eq_of_lt (by omega) (by rw [pr_eq]; omega)]; omega)

/-- Sums of whole numbers. -/
def isum (f : Nat → Int) : Nat → Int
  | 0 => 0
  | n + 1 => isum f n + f n
theorem isum_congr {f g : Nat → Int} {n : Nat} (h : ∀ k, k < n → f k = g k) : isum f n = isum g n := by
  induction n with
  | zero => rfl
  | succ n ih => show isum f n + f n = isum g n + g n; rw [ih fun k hk => h k (by omega), h n (by omega)]
theorem zi_isum (f : Nat → Int) (n : Nat) : zi (isum f n) = zs (fun k => zi (f k)) n := by
  induction n with
  | zero => exact zi_zero
  | succ n ih => show zi (isum f n + f n) = _; rw [zi_add, ih]; rfl
theorem isum_abs (f : Nat → Int) (n c : Nat) (h : ∀ k, k < n → (f k).natAbs ≤ c) : (isum f n).natAbs ≤ n * c := by
  induction n with
  | zero => simp [isum]
  | succ n ih =>
    have h1 := ih fun k hk => h k (by omega)
    have h2 := h n (by omega)
    show (isum f n + f n).natAbs ≤ _
    rw [Nat.add_mul, Nat.one_mul]
    omega

theorem sgn_back {v : Nat} {S : Int} (hv : v < pr) (h : zc v = zi S) (h1 : S.natAbs ≤ 9223372034707292160) : sgnN v = S := by
  have e : (v : Int) = S % (pr : Int) := by
    have := congrArg (fun a : Z => (a.val : Int)) h
    simp only [zi_val, zc_val, Nat.mod_eq_of_lt hv] at this
    exact this
  unfold sgnN
  by_cases hs : 0 ≤ S
  · rw [Int.emod_eq_of_lt hs (by rw [pr_eq]; omega)] at e
    rw [if_neg (by omega)]; exact e
  · have e2 : S % (pr : Int) = S + (pr : Int) := by
      rw [← Int.add_emod_right, Int.emod_eq_of_lt]
      · rw [pr_eq]; omega
      · omega
    rw [e2, pr_eq] at e
    have hv2 := hv
    rw [pr_eq] at hv2
    rw [if_pos (by omega)]
    omega

/-- The number at a place. -/
def atI (n1 n2 : Nat) (cs : List Int) (x y z : Nat) : Int := cs.getD ((x * n1 + y) * n2 + z) 0
/-- The sum of products round the cell. -/
def foldS (n0 n1 n2 : Nat) (ps bs : List Int) (u0 u1 u2 : Nat) : Int :=
  isum (fun x0 => isum (fun x1 => isum (fun x2 => atI n1 n2 ps x0 x1 x2 * atI n1 n2 bs ((u0 + n0 - x0) % n0) ((u1 + n1 - x1) % n1) ((u2 + n2 - x2) % n2)) n2) n1) n0

theorem at_res {n0 n1 n2 L : Nat} (hs : S3 n0 n1 n2 L) {cs : List Int} (hl : cs.length = L) (hw : Within cs) (x y z : Nat) (hx : x < n0) (hy : y < n1) (hz : z < n2) :
    zc (atA n1 n2 (fS0 cs) x y z) = zi (atI n1 n2 cs x y z) ∧ (atI n1 n2 cs x y z).natAbs ≤ 1048576 := by
  have hp := place3_lt _ _ _ _ _ _ hx hy hz
  rw [hs.p, ← hl] at hp
  have hb := hw _ hp
  unfold atA atI fS0
  have e : (cs.map resN).getD ((x * n1 + y) * n2 + z) 0 = resN (cs.getD ((x * n1 + y) * n2 + z) 0) := by
    simp [List.getD_eq_getElem?_getD, hp]
  rw [e]
  have hn : (cs.getD ((x * n1 + y) * n2 + z) 0).natAbs ≤ 1048576 := by omega
  exact ⟨zc_resN hn, hn⟩

/-- ntt.Fold, PLACE BY PLACE. -/
theorem foldN_at {n0 n1 n2 L : Nat} (hs : S3 n0 n1 n2 L) (ps bs : List Int) (hp : ps.length = L) (hb : bs.length = L) (hw1 : Within ps) (hw2 : Within bs) (u0 u1 u2 : Nat) (l0 : u0 < n0) (l1 : u1 < n1) (l2 : u2 < n2) :
    atI n1 n2 (foldN n0 n1 n2 L ps bs) u0 u1 u2 = foldS n0 n1 n2 ps bs u0 u1 u2 := by
  have hpl := place3_lt _ _ _ _ _ _ l0 l1 l2
  rw [hs.p] at hpl
  have hul : (uS3 n0 n1 n2 L ps bs).length = L := uS_length n0 n1 n2 L ps bs 3
  have e : atI n1 n2 (foldN n0 n1 n2 L ps bs) u0 u1 u2 = sgnN (atA n1 n2 (uS3 n0 n1 n2 L ps bs) u0 u1 u2) := by
    unfold atI atA foldN
    simp [List.getD_eq_getElem?_getD, hul, hpl]
  have m0 : ∀ x, (u0 + n0 - x) % n0 < n0 := fun x => Nat.mod_lt _ (by omega)
  have m1 : ∀ x, (u1 + n1 - x) % n1 < n1 := fun x => Nat.mod_lt _ (by omega)
  have m2 : ∀ x, (u2 + n2 - x) % n2 < n2 := fun x => Nat.mod_lt _ (by omega)
  rw [e]
  refine sgn_back (all_getD (uS_lt n0 n1 n2 L ps bs 3) _) ?_ ?_
  · rw [uS_fold hs ps bs hp hb u0 u1 u2 l0 l1 l2]
    unfold foldS
    rw [zi_isum]
    refine zs_congr fun x0 h0 => ?_
    rw [zi_isum]
    refine zs_congr fun x1 h1 => ?_
    rw [zi_isum]
    refine zs_congr fun x2 h2 => ?_
    rw [zi_mul, (at_res hs hp hw1 x0 x1 x2 h0 h1 h2).1, (at_res hs hb hw2 _ _ _ (m0 x0) (m1 x1) (m2 x2)).1]
  · have b : (foldS n0 n1 n2 ps bs u0 u1 u2).natAbs ≤ n0 * (n1 * (n2 * (1048576 * 1048576))) := by
      unfold foldS
      refine isum_abs _ _ _ fun x0 h0 => isum_abs _ _ _ fun x1 h1 => isum_abs _ _ _ fun x2 h2 => ?_
      rw [Int.natAbs_mul]
      exact Nat.mul_le_mul (at_res hs hp hw1 x0 x1 x2 h0 h1 h2).2 (at_res hs hb hw2 _ _ _ (m0 x0) (m1 x1) (m2 x2)).2
    have e2 : n0 * (n1 * (n2 * (1048576 * 1048576))) = L * (1048576 * 1048576) := by rw [← hs.p, ← Nat.mul_assoc, ← Nat.mul_assoc]
    have h3 : L * (1048576 * 1048576) ≤ 262144 * (1048576 * 1048576) := Nat.mul_le_mul_right _ hs.l
    rw [e2] at b
    omega

end Go.Proofs.YtehiabiahipkhaaGreat
