/-
  The walk of ntt.line at every count of numbers that divides 192.
  The walks of ntt.root, ntt.unline, the function that ntt.forward hands on; what a transform along an edge makes, as a function.
-/
import Derived.Test.YtehiabiahipkhaaGreatA2
import Derived.BigRegion
namespace Go.Proofs.YtehiabiahipkhaaGreat
open Go.RowKit
set_option linter.unusedVariables false
set_option linter.unusedSimpArgs false

/-- The list that a butterfly's loop fills from two sides: j of each half are there. -/
def halvesA (l : List Nat) (h j : Nat) : List Nat := (List.range l.length).map fun i => if i < j ∨ h ≤ i ∧ i < h + j then l.getD i 0 else 0
theorem halvesA_length (l : List Nat) (h j : Nat) : (halvesA l h j).length = l.length := by simp [halvesA]
theorem halvesA_zero (l : List Nat) (h : Nat) : halvesA l h 0 = List.replicate l.length 0 := by
  apply List.ext_getElem?; intro i
  by_cases hi : i < l.length
  · have : ¬ (h ≤ i ∧ i < h) := by omega
    simp [halvesA, hi, this]
  · simp [halvesA, hi]
theorem halvesA_all (l : List Nat) (h : Nat) (hl : l.length = 2 * h) : halvesA l h h = l := by
  apply List.ext_getElem?; intro i
  by_cases hi : i < l.length
  · have : i < h ∨ h ≤ i ∧ i < h + h := by omega
    simp [halvesA, hi, this, List.getD_eq_getElem?_getD]
  · simp [halvesA, hi]
theorem halvesA_succ (l : List Nat) (h j : Nat) (hj : j < h) : ((halvesA l h j).set j (l.getD j 0)).set (j + h) (l.getD (j + h) 0) = halvesA l h (j + 1) := by
  apply List.ext_getElem?; intro i
  simp only [halvesA, List.getElem?_set, List.length_set, List.length_map, List.length_range, List.getElem?_map]
  by_cases hi : i < l.length
  · by_cases h1 : j + h = i
    · subst h1; simp [hi]; omega
    · by_cases h2 : j = i
      · subst h2; simp [hi, h1]; intro h0; omega
      · have : (i < j + 1 ∨ h ≤ i ∧ i < h + (j + 1)) ↔ (i < j ∨ h ≤ i ∧ i < h + j) := by omega
        simp [h1, h2, hi, this]
  · by_cases h1 : j + h = i
    · subst h1; simp [hi]
    · by_cases h2 : j = i
      · subst h2; simp [hi, h1]; intro h0; omega
      · simp [h1, h2, hi]

/-- Where a place of the parted row comes from. -/
def srcA (h k : Nat) : Nat := if k < h then 2 * k else 2 * (k - h) + 1
/-- The row into which numbers are parted: i are there. -/
def partFill (xs : List Nat) (h i : Nat) : List Nat := (List.range (2 * h)).map fun k => if srcA h k < i then xs.getD (srcA h k) 0 else 0
theorem partFill_length (xs : List Nat) (h i : Nat) : (partFill xs h i).length = 2 * h := by simp [partFill]
theorem partFill_zero (xs : List Nat) (h : Nat) : partFill xs h 0 = List.replicate (2 * h) 0 := by
  apply List.ext_getElem?; intro i
  by_cases hi : i < 2 * h <;> simp [partFill, hi]
theorem partFill_succ (xs : List Nat) (h i p : Nat) (hi : i < 2 * h) (hp : p < 2 * h) (hs : srcA h p = i) : (partFill xs h i).set p (xs.getD i 0) = partFill xs h (i + 1) := by
  apply List.ext_getElem?; intro k
  simp only [partFill, List.getElem?_set, List.length_map, List.length_range, List.getElem?_map]
  by_cases hk : k < 2 * h
  · by_cases h1 : p = k
    · subst h1; simp [hk, hs]
    · have hne : srcA h k ≠ i := by
        intro h2
        apply h1
        unfold srcA at hs h2
        split at hs <;> split at h2 <;> omega
      have : (srcA h k < i + 1) ↔ (srcA h k < i) := by omega
      simp [h1, hk, this]
  · by_cases h1 : p = k
    · subst h1; omega
    · simp [h1, hk]
theorem partFill_get (xs : List Nat) (h k : Nat) (hk : k < 2 * h) : (partFill xs h (2 * h)).getD k 0 = xs.getD (srcA h k) 0 := by
  have : srcA h k < 2 * h := by unfold srcA; split <;> omega
  simp [partFill, hk, this]

set_option maxHeartbeats 4000000 in
set_option maxRecDepth 100000 in
theorem nline_any (f : Nat) : ∀ (b off n cap v : Nat) (xs : List Nat) (w : World), xs.length = n → 192 % n = 0 → n ≤ 192 → n < 2 ^ f → v < pr → (∀ x ∈ xs, x < pr) →
    (∀ i, i < n → w.cell? ⟨b, off + i, none⟩ = some (nV (xs.getD i 0))) →
    Calls Tryz.prog 42 #[.slice (some ⟨b, off, none⟩) n cap, nV v] w fun e w' => RetArr 59 nV n (nline f xs v) w e w' ∧ Bel w w' := by
  induction f with
  | zero =>
    intro b off n cap v xs w hn h192 hlen hf
    have : n = 0 := by have h1 : n < 1 := hf; omega
    subst this
    simp at h192
  | succ f ih =>
    intro b off n cap v xs w hn h192 hlen hf hv hp hx
    by_cases hodd : n % 2 = 1
    · have e : nline (f + 1) xs v = (List.range n).map fun j => nS xs (powP v j) n := by
        unfold nline; rw [hn, if_pos hodd]
      rw [e]
      exact nline_odd b off cap v n xs w hn hodd hlen (pr_small hv) hp hx
    · obtain ⟨i0, hi, hz0, hz1, hz2⟩ := info_parts' info_n
      have ho1 : ((n : Int) % 2 == 1) = false := by simp; omega
      have ho2 : (n : Int).tmod 2 = 0 := by rw [Int.tmod_eq_emod_of_nonneg (by omega)]; omega
      have hn0 : 0 < n := by
        rcases Nat.eq_zero_or_pos n with h | h
        · subst h; simp at h192
        · exact h
      obtain ⟨h, hh⟩ : ∃ h, n / 2 = h := ⟨_, rfl⟩
      have hh2 : n = 2 * h := by omega
      have h192h : 192 % h = 0 := by
        have := Nat.div_add_mod 192 n
        have h2 : 192 = h * (2 * (192 / n)) := by rw [← Nat.mul_assoc, Nat.mul_comm h 2, ← hh2]; omega
        rw [h2]; exact Nat.mul_mod_right _ _
      have hle : h ≤ 96 := by omega
      have hge : 0 < h := by omega
      have hhf : h < 2 ^ f := by rw [Nat.pow_succ] at hf; omega
      obtain ⟨e, he⟩ : ∃ e, nline f (partA xs 0 h) (mulP v v) = e := ⟨_, rfl⟩
      obtain ⟨o, hoo⟩ : ∃ o, nline f (partA xs 1 h) (mulP v v) = o := ⟨_, rfl⟩
      obtain ⟨r, hr⟩ : ∃ r, nline (f + 1) xs v = r := ⟨_, rfl⟩
      have hr' : r = ((List.range h).map fun j => addP (e.getD j 0) (mulP (atN v j) (o.getD j 0))) ++ ((List.range h).map fun j => subP (e.getD j 0) (mulP (atN v j) (o.getD j 0))) := by
        rw [← hr]; unfold nline; rw [hn, if_neg hodd, hh]; simp only []; rw [he, hoo]
      have HLr : Hid (r.length = n) := by unfold Hid; rw [hr']; simp; omega
      have HR1 : Hid (∀ j, j < h → r.getD j 0 = addP (e.getD j 0) (mulP (atN v j) (o.getD j 0))) := fun j hj => by
        rw [hr', List.getD_eq_getElem?_getD, List.getElem?_append_left (by simp; omega)]; simp [hj]
      have HR2 : Hid (∀ j, j < h → r.getD (j + h) 0 = subP (e.getD j 0) (mulP (atN v j) (o.getD j 0))) := fun j hj => by
        rw [hr', List.getD_eq_getElem?_getD, List.getElem?_append_right (by simp)]; simp [hj]
      rw [hr]
      have HEL : Hid (e.length = h) := by unfold Hid; rw [← he, nline_length (by rw [partA_length]; exact hhf) (by rw [partA_length]; exact hge), partA_length]
      have HOL : Hid (o.length = h) := by unfold Hid; rw [← hoo, nline_length (by rw [partA_length]; exact hhf) (by rw [partA_length]; exact hge), partA_length]
      have HEP := Lib.hid (fun i => all_getD (xs := e) (by rw [← he]; exact nline_lt _ _ _) i)
      have HOP := Lib.hid (fun i => all_getD (xs := o) (by rw [← hoo]; exact nline_lt _ _ _) i)
      have HPA : Hid (∀ k, ∀ x ∈ partA xs k h, x < pr) := fun k x hx => by
        simp only [partA, List.mem_map, List.mem_range] at hx
        obtain ⟨i, _, rfl⟩ := hx
        exact all_getD hp _
      have HIE := Lib.hid (fun (g : Nat) (w : World) (hc : ∀ i, i < h → w.cell? ⟨g, 0 + i, none⟩ = some (nV ((partA xs 0 h).getD i 0))) => ih g 0 h n (mulP v v) (partA xs 0 h) w (partA_length _ _ _) h192h (by omega) hhf (mulP_lt _ _) (HPA.out 0) hc)
      have HIO := Lib.hid (fun (g : Nat) (w : World) (hc : ∀ i, i < h → w.cell? ⟨g, h + i, none⟩ = some (nV ((partA xs 1 h).getD i 0))) => ih g h h h (mulP v v) (partA xs 1 h) w (partA_length _ _ _) h192h (by omega) hhf (mulP_lt _ _) (HPA.out 1) hc)
      rw [he] at HIE
      rw [hoo] at HIO
      have HM := Lib.hid (fun w => nmul_any v v (pr_small hv) (pr_small hv) w)
      have HV := Lib.hid hv
      have HX := Lib.hid hx
      have HN := Lib.hid hn
      have HH2 := Lib.hid hh2
      have n8 : 8 * n ≤ 281474976710656 := by omega
      have n9 : n ≤ 1000000000 := by omega
      have hd : (n : Int).tdiv 2 = (h : Int) := by rw [Int.tdiv_eq_ediv_of_nonneg (by omega)]; omega
      have hw : IntKind.i64.wrap (h : Int) = (h : Int) := IntWalk.i64_in _ (by omega)
      clear hn he hoo hr hr' hx h192 h192h ih hh hh2 hodd hf hhf hp hv
      go_enter Tryz.func42, Tryz.ntmps42
      go_wp2_with (first | (refine wpList_make_arr _ rfl (.tmp 23) (.tmp 23) 61 rfl 59 i0 nV 0 8 Tryz.underlying61 hi hz0 hz1 hz2 cells_n .i64 .i64 _ _ n rfl rfl rfl rfl n8 n9 ?_; intro w1 hout hb1) | (refine wpList_make_arr _ rfl (.tmp 58) (.tmp 58) 61 rfl 59 i0 nV 0 8 Tryz.underlying61 hi hz0 hz1 hz2 cells_n .i64 .i64 _ _ n rfl rfl rfl rfl n8 n9 ?_; intro w2 hhalf hb2) | fail)
      have HOUT : Hid (NArr w1 w.heap.size n (List.replicate n 0)) := hout
      have HG1 : Hid (w.heap.size < w1.heap.size) := hout.lt
      have HG2 : Hid (w1.heap.size < w2.heap.size) := hhalf.lt
      have HBX : Hid (Bel w w1) := hb1
      have HBY : Hid (Bel w1 w2) := hb2
      have HHALF : Hid (NArr w2 w1.heap.size n (List.replicate n 0)) := hhalf
      clear hout hhalf hb1 hb2
      go_loopw [62] (fun i wr => ∃ k : Nat, k ≤ n ∧ i = .int .i64 k ∧ NArr wr w1.heap.size n (partFill xs h k) ∧ Bel w1 wr) (fun i _ => n - (intOf i).toNat)
      case atStart => exact ⟨0, Nat.zero_le _, rfl, HHALF.out.ext (by rw [partFill_zero, HH2.out]), HBY.out⟩
      case round =>
        obtain ⟨k, hk, rfl, ha, hbw⟩ := hrel
        by_cases hlt : k < n
        · have hcell := (HBX.out.trans hbw).cellv (HX.out k hlt)
          have HA := Lib.hid ha
          have HBW := Lib.hid hbw
          clear ha hbw
          have hki : (k : Int) < n := by omega
          obtain ⟨d, hdk⟩ : ∃ d, k / 2 = d := ⟨_, rfl⟩
          have td : (k : Int).tdiv 2 = (d : Int) := by rw [Int.tdiv_eq_ediv_of_nonneg (by omega)]; omega
          have wd : IntKind.i64.wrap (d : Int) = (d : Int) := IntWalk.i64_in _ (by omega)
          by_cases hko : k % 2 = 1
          · have hh := HH2.out
            have t2 : (k : Int).tmod 2 = 1 := by rw [Int.tmod_eq_emod_of_nonneg (by omega)]; omega
            have hs : srcA h (h + d) = k := by unfold srcA; split <;> omega
            have hpl : h + d < n := by have := HH2.out; omega
            have wp : IntKind.i64.wrap ((h : Int) + (d : Int)) = ((h + d : Nat) : Int) := by rw [IntWalk.i64_in _ (by omega)]; simp
            generalize hpp : h + d = p at hs hpl wp
            have hpi : (p : Int) < n := by omega
            have hoc := HA.out.cell (i := p) (by rw [partFill_length, ← HH2.out]; exact hpl) 0
            have hof := HA.out.frozen p
            have HS := Lib.hid hs
            have HPL := Lib.hid hpl
            have HD := Lib.hid hdk
            clear hs hpl hdk hpp hko hh
            
            go_wp2_with fail
            go_roundw
            case rel =>
              exact ⟨k + 1, by omega, by go_num, (HA.out.store _ (xs.getD k 0)).ext (partFill_succ xs h k _ (by have := HH2.out; omega) (by have := HH2.out; have := HPL.out; omega) HS.out), HBW.out.setCell (Nat.le_refl _) _⟩
            case measure => simp [intOf]; omega
          · have hh := HH2.out
            have t2 : (k : Int).tmod 2 = 0 := by rw [Int.tmod_eq_emod_of_nonneg (by omega)]; omega
            have hs : srcA h (d) = k := by unfold srcA; split <;> omega
            have hpl : d < n := by have := HH2.out; omega
            have wp : IntKind.i64.wrap (d : Int) = ((d : Nat) : Int) := wd
            generalize hpp : d = p at hs hpl wp
            have hpi : (p : Int) < n := by omega
            have hoc := HA.out.cell (i := p) (by rw [partFill_length, ← HH2.out]; exact hpl) 0
            have hof := HA.out.frozen p
            have HS := Lib.hid hs
            have HPL := Lib.hid hpl
            have HD := Lib.hid hdk
            clear hs hpl hdk hko hh
            subst hpp
            go_wp2_with fail
            go_roundw
            case rel =>
              exact ⟨k + 1, by omega, by go_num, (HA.out.store _ (xs.getD k 0)).ext (partFill_succ xs h k _ (by have := HH2.out; omega) (by have := HH2.out; have := HPL.out; omega) HS.out), HBW.out.setCell (Nat.le_refl _) _⟩
            case measure => simp [intOf]; omega
        · have hkn : n = k := by omega
          subst hkn
          have HHF : Hid (NArr wr w1.heap.size n (partFill xs h (2 * h))) := ha.ext (by rw [← HH2.out])
          have HBW := Lib.hid hbw
          have hb0 : Bel wr wr.drew := (Bel.refl wr).drew
          have hnh : n - h = h := by have := HH2.out; omega
          have hneh : ¬ n = h := by have := HH2.out; omega
          have hli : (h : Int) ≤ n := by have := HH2.out; omega
          have HCE : Hid (∀ W, Bel wr W → ∀ i, i < h → W.cell? ⟨w1.heap.size, 0 + i, none⟩ = some (nV ((partA xs 0 h).getD i 0))) := fun W hW i hi => by
            have := hW.cellv (HHF.out.cell (i := i) (by rw [partFill_length]; omega) 0)
            rw [partFill_get _ _ _ (by omega), srcA, if_pos hi] at this
            rw [partA_get _ _ _ _ hi, Nat.zero_add, Nat.zero_add]
            exact this
          have HCO : Hid (∀ W, Bel wr W → ∀ i, i < h → W.cell? ⟨w1.heap.size, h + i, none⟩ = some (nV ((partA xs 1 h).getD i 0))) := fun W hW i hi => by
            have := hW.cellv (HHF.out.cell (i := h + i) (by rw [partFill_length]; omega) 0)
            rw [partFill_get _ _ _ (by omega), srcA, if_neg (by omega), show 2 * (h + i - h) + 1 = 1 + 2 * i by omega] at this
            rw [partA_get _ _ _ _ hi]
            exact this
          clear ha hbw hk hlt
          go_wp2_with fail
          go_region_held3 (fun _ => True) (trivial) (first
            | (go_at_call 50; (with_reducible refine (HM.out _).mono ?_); rintro e w' ⟨rfl, hbm⟩; have hb := Bel.trans (by assumption) hbm)
            | (go_at_call 42; (with_reducible refine (HIE.out w1.heap.size _ (HCE.out _ (by assumption))).mono ?_); rintro e1 w' ⟨⟨g2, c2, rfl, hl2, hg2, ha2⟩, hbe⟩; have hgg2 : wr.heap.size ≤ g2 := Nat.le_trans (Bel.size (by assumption)) hg2; have hb := Bel.trans (by assumption) hbe)
            | (go_at_call 42; (with_reducible refine (HIO.out w1.heap.size _ (HCO.out _ (by assumption))).mono ?_); rintro e1 w' ⟨⟨g4, c4, rfl, hl4, hg4, ha4⟩, hbo⟩; have hgg4 : wr.heap.size ≤ g4 := Nat.le_trans (Bel.size (by assumption)) hg4; have hb := Bel.trans (by assumption) hbo))
          have HEA : Hid (NArr w' g2 c2 e) := (ha2.bel hbm).bel hbo
          have HOA : Hid (NArr w' g4 c4 o) := ha4
          have HUA : Hid (NArr w' w.heap.size n (halvesA r h 0)) := (((HOUT.out.bel HBW.out).bel hb)).ext (by rw [halvesA_zero, HLr.out])
          have hsz : w.heap.size < wr.heap.size := Nat.lt_of_lt_of_le HG1.out HBW.out.size
          have hne2 : w.heap.size < g2 := Nat.lt_of_lt_of_le hsz hgg2
          have hne4 : w.heap.size < g4 := Nat.lt_of_lt_of_le hsz hgg4
          have HB := Lib.hid ((HBX.out.trans HBW.out).trans hb)
          clear ha2 ha4 hbm hbo hbe hb hgg2 hgg4 hg2 hg4 hl2 hl4 HHF HCE HCO HIE HIO HM HOUT HX hb0 hnh hneh hli hsz
          go_wp2_with fail
          go_loopw [18, 97] (fun a i wq => ∃ j : Nat, j ≤ h ∧ i = .int .i64 j ∧ a = nV (atN v j) ∧ NArr wq w.heap.size n (halvesA r h j) ∧ NArr wq g2 c2 e ∧ NArr wq g4 c4 o ∧ Bel w wq) (fun _ i _ => h - (intOf i).toNat)
          case atStart => exact ⟨0, Nat.zero_le _, rfl, rfl, HUA.out, HEA.out, HOA.out, HB.out⟩
          case round =>
            clear HEA HOA HUA HB
            obtain ⟨j, hj, rfl, rfl, hu, hea, hoa, hbq⟩ := hrel
            by_cases hlt : j < h
            · have hoc := hoa.cell (i := j) (by rw [HOL.out]; exact hlt) 0
              have HU := Lib.hid hu
              have HEA := Lib.hid hea
              have HOA := Lib.hid hoa
              have HBQ := Lib.hid hbq
              have HV2 := HV.out
              have HM1 := Lib.hid (fun w => nmul_any (atN v j) (o.getD j 0) (pr_small (atN_lt _ _)) (pr_small (HOP.out j)) w)
              have HA := Lib.hid (fun w => add_any (e.getD j 0) (mulP (atN v j) (o.getD j 0)) (HEP.out j) (mulP_lt _ _) w)
              have HSb := Lib.hid (fun w => sub_any (e.getD j 0) (mulP (atN v j) (o.getD j 0)) (HEP.out j) (mulP_lt _ _) w)
              have HM2 := Lib.hid (fun w => nmul_any (atN v j) v (pr_small (atN_lt _ _)) (pr_small HV2) w)
              rw [← HR1.out j hlt] at HA
              rw [← HR2.out j hlt] at HSb
              clear hu hea hoa hbq HV2
              obtain ⟨x, hx⟩ : ∃ x, o.getD j 0 = x := ⟨_, rfl⟩
              rw [hx] at hoc HM1 HA HSb
              obtain ⟨y, hy⟩ : ∃ y, e.getD j 0 = y := ⟨_, rfl⟩
              rw [hy] at HA HSb
              have HY := Lib.hid hy
              obtain ⟨p, hp⟩ : ∃ p, mulP (atN v j) x = p := ⟨_, rfl⟩
              rw [hp] at HM1 HA HSb
              obtain ⟨lo, hlo⟩ : ∃ lo, r.getD j 0 = lo := ⟨_, rfl⟩
              rw [hlo] at HA
              have HLO := Lib.hid hlo
              obtain ⟨hi', hhi⟩ : ∃ hi', r.getD (j + h) 0 = hi' := ⟨_, rfl⟩
              rw [hhi] at HSb
              have HHI := Lib.hid hhi
              clear hx hy hp hlo hhi
              have hjo : (j : Int) < h := by omega
              obtain ⟨wq', rfl⟩ : ∃ wq' : World, wq' = wr := ⟨_, rfl⟩
              go_wp2_with fail
              refine (HM1.out _).mono ?_
              rintro e1 wa ⟨rfl, hba⟩
              have HBA := Lib.hid hba
              have HS : Hid (S5 ⟨g2, j, none⟩ ⟨w.heap.size, j, none⟩ ⟨w.heap.size, j + h, none⟩ (nV y) wa) := by
                have hu := HU.out.bel hba
                have c1 := hu.cell (i := j) (by rw [halvesA_length, HLr.out]; have := HH2.out; omega) 0
                have c2 := hu.cell (i := j + h) (by rw [halvesA_length, HLr.out]; have := HH2.out; omega) 0
                have c3 := HEA.out.cell (i := j) (by rw [HEL.out]; exact hlt) 0
                rw [HY.out] at c3
                exact ⟨hba.cellv c3, ⟨cellD_eq c1, hu.frozen _⟩, cellD_eq c2, hu.frozen _⟩
              have hb1 : Bel wa wa.drew := (Bel.refl wa).drew
              have q3 : IntKind.i64.wrap ((j : Int) + (h : Int)) = ((j + h : Nat) : Int) := by rw [IntWalk.i64_in _ (by omega)]; simp
              have q5 : ((j + h : Nat) : Int) < n := by have := HH2.out; omega
              have q7 : (j : Int) < n := by have := HH2.out; omega
              have HJH : Hid (j + h < n) := by have := HH2.out; unfold Hid; omega
              clear hba
              generalize hjh : j + h = jh at HS q3 q5
              have HJ := Lib.hid hjh
              clear hjh
              go_wp2_with fail
              go_region_held3 (fun w' => w'.cell? ⟨g2, j, none⟩ = some (nV y) ∧ (w'.cell? ⟨w.heap.size, j, none⟩ = some (cellD w' ⟨w.heap.size, j, none⟩) ∧ w'.frozen? ⟨w.heap.size, j, none⟩ = false) ∧ w'.cell? ⟨w.heap.size, jh, none⟩ = some (cellD w' ⟨w.heap.size, jh, none⟩) ∧ w'.frozen? ⟨w.heap.size, jh, none⟩ = false) (first | exact S5.bel HS.out (by assumption) | exact S5.store (by assumption) (by first | exact Or.inl rfl | exact Or.inr rfl) (by show g2 ≠ w.heap.size; omega) (by show g2 ≠ w.heap.size; omega) _) (first
                | (go_at_call 62; (with_reducible refine (callsFrom (HA.out _) (by assumption)).mono ?_); rintro e w' ⟨rfl, hb⟩)
                | (go_at_call 63; (with_reducible refine (callsFrom (HSb.out _) (by assumption)).mono ?_); rintro e w' ⟨rfl, hb⟩))
              have A1 : NArr w' w.heap.size n (halvesA r h j) := (HU.out.bel HBA.out).bel hb
              have A2 := (A1.store j lo).store jh hi'
              have A3 := Lib.hid (A2.ext (ys := halvesA r h (j + 1)) (by rw [← HLO.out, ← HHI.out, ← HJ.out]; exact halvesA_succ r h j hlt))
              have B1 := Lib.hid ((((HEA.out.bel HBA.out).bel hb).setOther (p := ⟨w.heap.size, j, none⟩) (by show w.heap.size ≠ g2; omega) (nV lo)).setOther (p := ⟨w.heap.size, jh, none⟩) (by show w.heap.size ≠ g2; omega) (nV hi'))
              have B2 := Lib.hid ((((HOA.out.bel HBA.out).bel hb).setOther (p := ⟨w.heap.size, j, none⟩) (by show w.heap.size ≠ g4; omega) (nV lo)).setOther (p := ⟨w.heap.size, jh, none⟩) (by show w.heap.size ≠ g4; omega) (nV hi'))
              have C1 := Lib.hid ((((HBQ.out.trans HBA.out).trans hb).setCell (p := ⟨w.heap.size, j, none⟩) (Nat.le_refl _) (nV lo)).setCell (p := ⟨w.heap.size, jh, none⟩) (Nat.le_refl _) (nV hi'))
              clear A1 A2 hb hb1 q3 q5 q7
              go_wp2_with fail
              generalize World.setCell _ _ _ = W5 at A3 B1 B2 C1 ⊢
              refine (HM2.out _).mono ?_
              rintro e1 w7 ⟨rfl, hb7⟩
              have HB7 := Lib.hid hb7
              clear hb7
              go_wp2_with fail
              go_roundw
              case rel => exact ⟨j + 1, by omega, by go_num, rfl, A3.out.bel HB7.out, B1.out.bel HB7.out, B2.out.bel HB7.out, C1.out.trans HB7.out⟩
              case measure => simp [intOf]; omega
            · have : j = h := by omega
              subst this
              have HA : Hid (NArr wr w.heap.size n r) := hu.ext (halvesA_all r j (by rw [HLr.out, HH2.out]))
              have HBQ := Lib.hid hbq
              clear hu hea hoa hbq
              go_wp2
              go_ret
              exact ⟨⟨w.heap.size, n, rfl, HLr.out, Nat.le_refl _, HA.out⟩, HBQ.out⟩

end Go.Proofs.YtehiabiahipkhaaGreat

namespace Go.Proofs.YtehiabiahipkhaaGreat
open Go.RowKit
set_option linter.unusedVariables false
set_option linter.unusedSimpArgs false

/-- The n-th root. -/
def rootN (n : Nat) : Nat := powP 7 (18446744069414584320 / n)
theorem rootN_lt (n : Nat) : rootN n < pr := powP_lt _ _

theorem root_any (n : Nat) (h1 : 1 ≤ n) (hn : n ≤ 192) (w : World) :
    Calls Tryz.prog 43 #[.int .i64 n] w fun e w' => e = .returned (nV (rootN n)) ∧ Bel w w' := by
  obtain ⟨q, hq⟩ : ∃ q, 18446744069414584320 / n = q := ⟨_, rfl⟩
  have hq2 : q < 18446744073709551616 := by rw [← hq]; exact Nat.lt_of_le_of_lt (Nat.div_le_self _ _) (by decide)
  have t1 : (18446744069414584320 : Int).tdiv n = (q : Int) := by
    rw [Int.tdiv_eq_ediv_of_nonneg (by omega), ← hq]; exact (Int.natCast_ediv 18446744069414584320 n).symm
  have t2 := Mul64.wrapN q hq2
  have hn64 : n < 18446744073709551616 := Nat.lt_of_le_of_lt hn (by decide)
  have t3 := Mul64.wrapN n hn64
  have z : ¬ n = 0 := by omega
  have HP := Lib.hid (fun w => power_any 7 q (by decide) hq2 w)
  have e : powP 7 q = rootN n := by unfold rootN; rw [hq]
  rw [e] at HP
  clear hq hq2 hn64 h1 hn e
  go_enter Tryz.func43, Tryz.ntmps43
  go_wp2_with fail
  refine (HP.out _).mono ?_
  rintro e w' ⟨rfl, hb⟩
  have HB := Lib.hid hb
  clear hb
  go_wp2_with fail
  go_ret
  exact ⟨rfl, HB.out⟩

/-- ntt.unline. -/
def unlineN (xs : List Nat) : List Nat := (nline 8 xs (powP (rootN xs.length) (xs.length - 1))).map fun a => mulP a (powP xs.length 18446744069414584319)
theorem unlineN_length {xs : List Nat} (h0 : 0 < xs.length) (h : xs.length ≤ 192) : (unlineN xs).length = xs.length := by
  unfold unlineN; rw [List.length_map, nline_length (by omega) h0]
theorem unlineN_lt (xs : List Nat) : ∀ x ∈ unlineN xs, x < pr := by
  intro x hx
  simp only [unlineN, List.mem_map] at hx
  obtain ⟨a, _, rfl⟩ := hx
  exact mulP_lt _ _

/-- A list whose first k are replaced. -/
def mixA (l r : List Nat) (k : Nat) : List Nat := (List.range l.length).map fun i => if i < k then r.getD i 0 else l.getD i 0
theorem mixA_length (l r : List Nat) (k : Nat) : (mixA l r k).length = l.length := by simp [mixA]
theorem mixA_zero (l r : List Nat) : mixA l r 0 = l := by
  apply List.ext_getElem?; intro i
  by_cases hi : i < l.length <;> simp [mixA, hi, List.getD_eq_getElem?_getD]
theorem mixA_all (l r : List Nat) (h : r.length = l.length) : mixA l r l.length = r := by
  apply List.ext_getElem?; intro i
  by_cases hi : i < l.length
  · simp [mixA, hi, List.getD_eq_getElem?_getD, show i < r.length by omega]
  · simp [mixA, hi, show r.length ≤ i by omega]
theorem mixA_get (l r : List Nat) (k : Nat) (h : k < l.length) : (mixA l r k).getD k 0 = l.getD k 0 := by simp [mixA, h]
theorem mixA_succ (l r : List Nat) (k : Nat) : (mixA l r k).set k (r.getD k 0) = mixA l r (k + 1) := by
  apply List.ext_getElem?; intro i
  simp only [mixA, List.getElem?_set, List.length_map, List.length_range, List.getElem?_map]
  by_cases hi : i < l.length
  · by_cases hik : k = i
    · subst hik; simp [hi]
    · simp [hik, hi, show (i < k + 1) = (i < k) by simp; omega]
  · by_cases hik : k = i
    · subst hik; simp [hi]
    · simp [hik, hi]

set_option maxHeartbeats 2000000 in
theorem unline_any (b off n cap : Nat) (xs : List Nat) (w : World) (hn : xs.length = n) (h192 : 192 % n = 0) (h0 : 0 < n) (hlen : n ≤ 192) (hp : ∀ x ∈ xs, x < pr)
    (hx : ∀ i, i < n → w.cell? ⟨b, off + i, none⟩ = some (nV (xs.getD i 0))) :
    Calls Tryz.prog 52 #[.slice (some ⟨b, off, none⟩) n cap] w fun e w' => RetArr 59 nV n (unlineN xs) w e w' ∧ Bel w w' := by
  obtain ⟨r, hr⟩ : ∃ r, unlineN xs = r := ⟨_, rfl⟩
  obtain ⟨l, hl⟩ : ∃ l, nline 8 xs (powP (rootN n) (n - 1)) = l := ⟨_, rfl⟩
  obtain ⟨by_, hby⟩ : ∃ y, powP n 18446744069414584319 = y := ⟨_, rfl⟩
  have hr2 : r = l.map fun a => mulP a by_ := by rw [← hr]; unfold unlineN; rw [hn, hl, hby]
  have hll : l.length = n := by rw [← hl, nline_length (by rw [hn]; omega) (by rw [hn]; exact h0), hn]
  have HRG : Hid (∀ i, i < n → r.getD i 0 = mulP (l.getD i 0) by_) := fun i hi => by rw [hr2]; simp [List.getD_eq_getElem?_getD, hll, hi]
  have HRL : Hid (r.length = n) := by unfold Hid; rw [hr2, List.length_map, hll]
  have HLL := Lib.hid hll
  have HLP := Lib.hid (fun i => all_getD (xs := l) (by rw [← hl]; exact nline_lt _ _ _) i)
  have HROOT := Lib.hid (fun w => root_any n h0 hlen w)
  have hn64 : n < 18446744073709551616 := Nat.lt_of_le_of_lt hlen (by decide)
  have HP1 := Lib.hid (fun w => power_any (rootN n) (n - 1) (pr_small (rootN_lt _)) (by omega) w)
  have HP2 := Lib.hid (fun w => power_any n 18446744069414584319 hn64 (by decide) w)
  have HBY : Hid (by_ < pr) := by unfold Hid; rw [← hby]; exact powP_lt _ _
  have HLINE := Lib.hid (fun (w1 : World) (hb : Bel w w1) => nline_any 8 b off n cap (powP (rootN n) (n - 1)) xs w1 hn h192 hlen (by omega) (powP_lt _ _) hp (fun i hi => hb.cellv (hx i hi)))
  rw [hby] at HP2
  rw [hl] at HLINE
  rw [hr]
  obtain ⟨n1, hn1⟩ : ∃ n1, n - 1 = n1 := ⟨_, rfl⟩
  rw [hn1] at HP1 HLINE
  have t1 := Mul64.wrapN n hn64
  have t2 : IntKind.u64.wrap ((n : Int) - 1) = (n1 : Int) := by
    rw [show (n : Int) - 1 = (n1 : Int) by omega]; exact Mul64.wrapN n1 (by omega)
  obtain ⟨rt, hrt⟩ : ∃ rt, rootN n = rt := ⟨_, rfl⟩
  rw [hrt] at HROOT HP1 HLINE
  have hb0 : Bel w w := Bel.refl w
  clear hr hl hby hr2 hll hn1 hrt hn h192 hp hx hn64
  go_enter Tryz.func52, Tryz.ntmps52
  go_wp2_with fail
  refine (HROOT.out _).mono ?_
  rintro e w1 ⟨rfl, hb1⟩
  have HB1 := Lib.hid (hb0.trans hb1)
  clear hb1
  go_wp2_with fail
  refine (HP1.out _).mono ?_
  rintro e w2 ⟨rfl, hb2⟩
  have HB2 := Lib.hid (HB1.out.trans hb2)
  clear hb2
  go_wp2_with fail
  refine (HLINE.out _ HB2.out).mono ?_
  rintro e w3 ⟨⟨g, c, rfl, hll, hg, ha⟩, hb3⟩
  have HB3 := Lib.hid (HB2.out.trans hb3)
  have HA3 := Lib.hid ha
  have hwg : w.heap.size ≤ g := Nat.le_trans HB2.out.size hg
  clear hb3 ha hg
  go_wp2_with fail
  refine (HP2.out _).mono ?_
  rintro e w4 ⟨rfl, hb4⟩
  have HB4 := Lib.hid (HB3.out.trans hb4)
  have HA4 := Lib.hid (HA3.out.bel hb4)
  clear hb4
  go_wp2_with fail
  go_loopw [23] (fun i wr => ∃ j : Nat, j ≤ n ∧ i = .int .i64 j ∧ NArr wr g c (mixA l r j) ∧ Bel w wr) (fun i _ => n - (intOf i).toNat)
  case atStart => exact ⟨0, Nat.zero_le _, rfl, HA4.out.ext (mixA_zero _ _).symm, HB4.out⟩
  case round =>
    obtain ⟨j, hj, rfl, ha, hbw⟩ := hrel
    by_cases hlt : j < n
    · have hc := ha.cell (i := j) (by rw [mixA_length, HLL.out]; exact hlt) 0
      rw [mixA_get _ _ _ (by rw [HLL.out]; exact hlt)] at hc
      have HM := Lib.hid (fun w => nmul_any (l.getD j 0) by_ (pr_small (HLP.out j)) (pr_small HBY.out) w)
      rw [← HRG.out j hlt] at HM
      generalize l.getD j 0 = x at hc HM
      have HA := Lib.hid ha
      have HB := Lib.hid hbw
      have hji : (j : Int) < n := by omega
      clear ha hbw
      obtain ⟨y, hy⟩ : ∃ y, r.getD j 0 = y := ⟨_, rfl⟩
      rw [hy] at HM
      have HY := Lib.hid hy
      clear hy
      go_wp2_with fail
      refine (HM.out _).mono ?_
      rintro e w5 ⟨rfl, hb5⟩
      have HA5 := Lib.hid (HA.out.bel hb5)
      have HB5 := Lib.hid (HB.out.trans hb5)
      have hc5 := cellD_eq (HA5.out.cell (i := j) (by rw [mixA_length, HLL.out]; exact hlt) 0)
      have hf5 := HA5.out.frozen j
      clear hb5 hc
      go_wp2_with fail
      go_roundw
      case rel =>
        exact ⟨j + 1, by omega, by go_num, (HA5.out.store j y).ext (by rw [← HY.out]; exact mixA_succ _ _ j), HB5.out.setCell hwg _⟩
      case measure => simp [intOf]; omega
    · have : n = j := by omega
      subst this
      have HA : Hid (NArr wr g c r) := ha.ext (by rw [← HLL.out]; exact mixA_all _ _ (by rw [HRL.out, HLL.out]))
      have HB := Lib.hid hbw
      clear ha hbw
      go_wp2
      go_ret
      exact ⟨⟨g, c, rfl, HRL.out, hwg, HA.out⟩, HB.out⟩

/-- The function that ntt.forward hands on: a line by the root that it holds. -/
theorem fwd_any (pw v b off n cap : Nat) (xs : List Nat) (w : World) (hn : xs.length = n) (h192 : 192 % n = 0) (h0 : 0 < n) (hlen : n ≤ 192) (hv : v < pr) (hp : ∀ x ∈ xs, x < pr)
    (hc : w.cell? ⟨pw, 0, none⟩ = some (nV v))
    (hx : ∀ i, i < n → w.cell? ⟨b, off + i, none⟩ = some (nV (xs.getD i 0))) :
    Calls Tryz.prog 68 #[.slice (some ⟨b, off, none⟩) n cap, .pointer (some ⟨pw, 0, none⟩)] w fun e w' => RetArr 59 nV n (nline 8 xs v) w e w' ∧ Bel w w' := by
  have HL := Lib.hid (fun (w1 : World) (h : w1 = w) => nline_any 8 b off n cap v xs w1 hn h192 hlen (by omega) hv hp (by rw [h]; exact hx))
  clear hn h192 h0 hlen hv hp hx
  go_enter Tryz.func68, Tryz.ntmps68
  go_wp2_with fail
  refine (HL.out _ rfl).mono ?_
  rintro e w1 ⟨⟨g, c, rfl, hll, hg, ha⟩, hb⟩
  have HA := Lib.hid ha
  have HB := Lib.hid hb
  clear ha hb
  go_wp2_with fail
  go_ret
  exact ⟨⟨g, c, rfl, hll, hg, HA.out⟩, HB.out⟩

/-- The row that begins at a place. -/
def rowA (n apart : Nat) (ys : List Nat) (at0 : Nat) : List Nat := (List.range n).map fun i => ys.getD (at0 + i * apart) 0
/-- The first i of a row's new numbers laid back. -/
def putA (apart : Nat) (ys : List Nat) (at0 : Nat) (r : List Nat) : Nat → List Nat
  | 0 => ys
  | i + 1 => (putA apart ys at0 r i).set (at0 + i * apart) (r.getD i 0)
/-- The numbers when the first k places have been gone through. -/
def alongA (F : List Nat → List Nat) (n apart : Nat) (xs : List Nat) : Nat → List Nat
  | 0 => xs
  | k + 1 => if k / apart % n = 0 then putA apart (alongA F n apart xs k) k (F (rowA n apart (alongA F n apart xs k) k)) n else alongA F n apart xs k
theorem rowA_length (n apart : Nat) (ys : List Nat) (k : Nat) : (rowA n apart ys k).length = n := by simp [rowA]
theorem rowA_get (n apart : Nat) (ys : List Nat) (k i : Nat) (h : i < n) : (rowA n apart ys k).getD i 0 = ys.getD (k + i * apart) 0 := by simp [rowA, h]
theorem putA_length (apart : Nat) (ys : List Nat) (k : Nat) (r : List Nat) (i : Nat) : (putA apart ys k r i).length = ys.length := by
  induction i with
  | zero => rfl
  | succ i ih => simp [putA, ih]
theorem alongA_length (F : List Nat → List Nat) (n apart : Nat) (xs : List Nat) (k : Nat) : (alongA F n apart xs k).length = xs.length := by
  induction k with
  | zero => rfl
  | succ k ih => unfold alongA; split <;> simp [putA_length, ih]
theorem rowA_lt {n apart : Nat} {ys : List Nat} (h : ∀ x ∈ ys, x < pr) (k : Nat) : ∀ x ∈ rowA n apart ys k, x < pr := by
  intro x hx
  simp only [rowA, List.mem_map, List.mem_range] at hx
  obtain ⟨i, _, rfl⟩ := hx
  exact all_getD h _
theorem putA_lt {apart : Nat} {ys r : List Nat} (h : ∀ x ∈ ys, x < pr) (hr : ∀ x ∈ r, x < pr) (k i : Nat) : ∀ x ∈ putA apart ys k r i, x < pr := by
  induction i with
  | zero => exact h
  | succ i ih =>
    intro x hx
    unfold putA at hx
    rcases List.mem_or_eq_of_mem_set hx with hx | rfl
    · exact ih x hx
    · exact all_getD hr _
theorem alongA_lt {F : List Nat → List Nat} {n apart : Nat} {xs : List Nat} (h : ∀ x ∈ xs, x < pr) (hF : ∀ l, ∀ x ∈ F l, x < pr) (k : Nat) : ∀ x ∈ alongA F n apart xs k, x < pr := by
  induction k with
  | zero => exact h
  | succ k ih =>
    unfold alongA
    split
    · exact putA_lt ih (hF _) _ _
    · exact ih

theorem along_ltA (k apart n m i : Nat) (h0 : 0 < apart) (hk : k < n * apart * m) (hz : k / apart % n = 0) (hi : i < n) : k + i * apart < n * apart * m := by
  have h1 : k = apart * (k / apart) + k % apart := (Nat.div_add_mod k apart).symm
  have h2 : k / apart = n * (k / apart / n) := by have := Nat.div_add_mod (k / apart) n; omega
  have h3 : k % apart < apart := Nat.mod_lt _ h0
  generalize hq : k / apart / n = q at h2
  have h4 : q < m := by
    rcases Nat.lt_or_ge q m with h | h
    · exact h
    · exfalso
      have : n * apart * m ≤ n * apart * q := Nat.mul_le_mul_left _ h
      have e : apart * (n * q) = n * apart * q := by rw [← Nat.mul_assoc, Nat.mul_comm apart n]
      rw [h2, e] at h1
      omega
  have h5 : n * apart * (q + 1) ≤ n * apart * m := Nat.mul_le_mul_left _ h4
  have e : apart * (n * q) = n * apart * q := by rw [← Nat.mul_assoc, Nat.mul_comm apart n]
  rw [h2, e] at h1
  have h6 : (i + 1) * apart ≤ n * apart := Nat.mul_le_mul_right _ hi
  rw [Nat.add_mul, Nat.one_mul] at h6
  rw [Nat.mul_add, Nat.mul_one] at h5
  omega

end Go.Proofs.YtehiabiahipkhaaGreat
