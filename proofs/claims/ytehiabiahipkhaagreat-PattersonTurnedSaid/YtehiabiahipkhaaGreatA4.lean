/-
  The walk of ntt.along (printed by gen_ng.py).
-/
import Derived.Test.YtehiabiahipkhaaGreatA3
namespace Go.Proofs.YtehiabiahipkhaaGreat
open Go.RowKit
set_option linter.unusedVariables false
set_option linter.unusedSimpArgs false

/-- Three whole numbers. -/
def V3 (W : World) (p a b c : Nat) : Prop :=
  W.cell? ⟨p, 0, none⟩ = some (.int .i64 a) ∧ W.cell? ⟨p, 1, none⟩ = some (.int .i64 b) ∧ W.cell? ⟨p, 2, none⟩ = some (.int .i64 c)
theorem V3.bel {W W' : World} {p a b c : Nat} (h : V3 W p a b c) (hb : Bel W W') : V3 W' p a b c := ⟨hb.cellv h.1, hb.cellv h.2.1, hb.cellv h.2.2⟩
theorem v3_new (W : World) (a b c : Nat) (T : TypeId) : V3 (W.alloc (.cells #[.int .i64 a, .int .i64 b, .int .i64 c] T)) W.heap.size a b c :=
  ⟨cell_new _ _ _ 0, cell_new _ _ _ 1, cell_new _ _ _ 2⟩
theorem cell_far {W : World} {p q : Addr} {u x : Value} (h : W.cell? p = some u) (hne : p.block ≠ q.block) : (W.setCell q x).cell? p = some u := by
  rw [World.cell?_setCell_other W q p x (fun e => hne (by rw [e]))]; exact h
theorem V3.far {W : World} {p a b c : Nat} (h : V3 W p a b c) {q : Addr} (hq : p ≠ q.block) (x : Value) : V3 (W.setCell q x) p a b c := ⟨cell_far h.1 hq, cell_far h.2.1 hq, cell_far h.2.2 hq⟩
theorem V3.at {W : World} {p a b c e n : Nat} (h : V3 W p a b c) (he : (e = 0 ∧ n = a) ∨ (e = 1 ∧ n = b) ∨ (e = 2 ∧ n = c)) : W.cell? ⟨p, e, none⟩ = some (.int .i64 n) := by
  rcases he with ⟨rfl, rfl⟩ | ⟨rfl, rfl⟩ | ⟨rfl, rfl⟩
  · exact h.1
  · exact h.2.1
  · exact h.2.2

/-- Where the step's loop stands. -/
def StepI (n1 n2 e j s : Nat) : Prop :=
  (e = 0 ∧ j = 1 ∧ s = 1) ∨ (e = 0 ∧ j = 2 ∧ s = n1) ∨ (e = 0 ∧ j = 3 ∧ s = n1 * n2) ∨ (e = 1 ∧ j = 2 ∧ s = 1) ∨ (e = 1 ∧ j = 3 ∧ s = n2) ∨ (e = 2 ∧ j = 3 ∧ s = 1)

set_option maxHeartbeats 4000000 in
set_option maxRecDepth 100000 in
theorem nalong_unl (pw g cap n0 n1 n2 edge n apart m L : Nat) (xs : List Nat) (F : List Nat → List Nat) (I : World → Prop) (w0 w : World) (hL : xs.length = L)
    (he : (edge = 0 ∧ n = n0) ∨ (edge = 1 ∧ n = n1) ∨ (edge = 2 ∧ n = n2)) (hap : (edge = 0 ∧ apart = n1 * n2) ∨ (edge = 1 ∧ apart = n2) ∨ (edge = 2 ∧ apart = 1))
    (b1 : 1 ≤ n1 ∧ n1 ≤ 192) (b2 : 1 ≤ n2 ∧ n2 ≤ 192) (hn0 : 1 ≤ n) (hn1 : n ≤ 192) (hm : L = n * apart * m) (hLs : L ≤ 262144)
    (hp : ∀ x ∈ xs, x < pr) (hF : ∀ l, ∀ x ∈ F l, x < pr) (hFl : ∀ l : List Nat, l.length = n → (F l).length = n)
    (hIb : ∀ W W', Bel W W' → I W → I W') (hIs : ∀ W j u, I W → I (W.setCell ⟨g, j, none⟩ u)) (hIr : ∀ W q j u, w.heap.size ≤ q → I W → I (W.setCell ⟨q, j, none⟩ u)) (hI : I w)
    (HF : ∀ (W : World) (b : Nat) (ys : List Nat), I W → ys.length = n → (∀ x ∈ ys, x < pr) → (∀ i, i < n → W.cell? ⟨b, 0 + i, none⟩ = some (nV (ys.getD i 0))) →
      Calls Tryz.prog 52 #[.slice (some ⟨b, 0, none⟩) n n] W fun e w' => RetArr 59 nV n (F ys) W e w' ∧ Bel W w')
    (hv : NArr w g cap xs) (hb0 : Bel w0 w) (hg : w0.heap.size ≤ g) :
    Calls Tryz.prog 51 #[.agg #[.int .i64 n0, .int .i64 n1, .int .i64 n2], .slice (some ⟨g, 0, none⟩) L cap, .int .i64 edge, .func (.func 52) #[] #[]] w fun e w' =>
      e = .returned (.tuple #[]) ∧ NArr w' g cap (alongA F n apart xs L) ∧ Bel w0 w' ∧ I w' := by
  obtain ⟨i0, hi, hz0, hz1, hz2⟩ := info_parts' info_n
  have hpp : n1 * n2 ≤ 192 * 192 := Nat.mul_le_mul b1.2 b2.2
  have hpq : 1 ≤ n1 * n2 := Nat.mul_pos b1.1 b2.1
  have ha0 : 1 ≤ apart := by rcases hap with ⟨_, rfl⟩ | ⟨_, rfl⟩ | ⟨_, rfl⟩ <;> omega
  have ha1 : apart ≤ 262144 := by rcases hap with ⟨_, rfl⟩ | ⟨_, rfl⟩ | ⟨_, rfl⟩ <;> omega
  have he2 : edge ≤ 2 := by omega
  have HE := Lib.hid he
  have HAP := Lib.hid hap
  have HB12 := Lib.hid (And.intro b1 b2)
  have HPP := Lib.hid (And.intro hpp hpq)
  have HL := Lib.hid hL
  have HM := Lib.hid hm
  have HP := Lib.hid (fun k => alongA_lt (F := F) (n := n) (apart := apart) hp hF k)
  have HFR := Lib.hid hF
  have HFL := Lib.hid hFl
  have HIB := Lib.hid hIb
  have HIS := Lib.hid hIs
  have HIR := Lib.hid hIr
  have HI := Lib.hid hI
  have HFC := Lib.hid HF
  have HV := Lib.hid hv
  have HB0 := Lib.hid hb0
  have hgw : g < w.heap.size := hv.lt
  have n8 : 8 * n ≤ 281474976710656 := by omega
  have n9 : n ≤ 1000000000 := by omega
  have w1 : IntKind.i64.wrap ((edge : Int) + 1) = ((edge + 1 : Nat) : Int) := by rw [IntWalk.i64_in _ (by omega)]; simp
  generalize hed : edge + 1 = e1 at w1
  have HED := Lib.hid hed
  clear he hap b1 b2 hpp hpq hL hm hp hF hFl hIb hIs hIr hI HF hv hb0 hed
  go_enter Tryz.func51, Tryz.ntmps51
  go_wp2_with fail
  have K : Hid (V3 (w.alloc (.cells #[.int .i64 n0, .int .i64 n1, .int .i64 n2] 23)) w.heap.size n0 n1 n2) := v3_new _ _ _ _ _
  have st := (Bel.refl w).alloc (.cells #[.int .i64 n0, .int .i64 n1, .int .i64 n2] 23)
  have HV1 := Lib.hid (HV.out.bel st)
  have HI1 := Lib.hid (HIB.out _ _ st HI.out)
  have HB1 := Lib.hid (HB0.out.trans st)
  have HSZ : Hid ((w.alloc (.cells #[.int .i64 n0, .int .i64 n1, .int .i64 n2] 23)).heap.size = w.heap.size + 1) := size_alloc' _ _
  generalize World.alloc _ _ = W at K HV1 HI1 HB1 HSZ ⊢
  clear st HV HI HB0
  go_loopw [8, 9] (fun s i wr => ∃ j t : Nat, i = .int .i64 j ∧ s = .int .i64 t ∧ StepI n1 n2 edge j t ∧ wr = W) (fun _ i _ => 3 - (intOf i).toNat)
  case atStart => exact ⟨_, 1, rfl, rfl, by have := HED.out; unfold StepI; omega, rfl⟩
  case round =>
    obtain ⟨j, t, rfl, rfl, hst, hwr⟩ := hrel
    subst hwr
    obtain ⟨W, rfl⟩ : ∃ W : World, W = wr := ⟨_, rfl⟩
    by_cases hj : j < 3
    · obtain ⟨nj, hcell, hnext, hb⟩ : ∃ nj : Nat, W.cell? ⟨w.heap.size, j, none⟩ = some (.int .i64 nj) ∧ StepI n1 n2 edge (j + 1) (t * nj) ∧ t * nj ≤ 262144 := by
        have k := K.out
        obtain ⟨b1, b2⟩ := HB12.out
        obtain ⟨c1, c2⟩ := HPP.out
        unfold StepI at hst
        rcases hst with ⟨rfl, rfl, rfl⟩ | ⟨rfl, rfl, rfl⟩ | ⟨rfl, rfl, rfl⟩ | ⟨rfl, rfl, rfl⟩ | ⟨rfl, rfl, rfl⟩ | ⟨rfl, rfl, rfl⟩
        · exact ⟨n1, k.2.1, Or.inr (Or.inl ⟨rfl, rfl, Nat.one_mul _⟩), by omega⟩
        · exact ⟨n2, k.2.2, Or.inr (Or.inr (Or.inl ⟨rfl, rfl, rfl⟩)), by omega⟩
        · omega
        · exact ⟨n2, k.2.2, Or.inr (Or.inr (Or.inr (Or.inr (Or.inl ⟨rfl, rfl, Nat.one_mul _⟩)))), by omega⟩
        · omega
        · omega
      have f1 : IntKind.i64.wrap ((t : Int) * (nj : Int)) = ((t * nj : Nat) : Int) := by
        rw [← Int.natCast_mul]; exact IntWalk.i64_in _ (by omega)
      have f2 : (j : Int) < 3 := by omega
      have HN := Lib.hid hnext
      generalize t * nj = t' at f1 HN
      clear hst hnext hb
      go_wp2_with fail
      go_roundw
      case rel => exact ⟨j + 1, t', by go_num, rfl, HN.out, by first | rfl | trivial⟩
      case measure => simp [intOf]; omega
    · have hj3 : j = 3 ∧ t = apart := by
        have k := HAP.out
        unfold StepI at hst
        omega
      obtain ⟨rfl, rfl⟩ := hj3
      clear hst hj
      have hce := K.out.at HE.out
      have hei : (edge : Int) < 3 := by omega
      go_wp2_with (first | (refine wpList_make_arr _ rfl (.tmp 28) (.tmp 28) 61 rfl 59 i0 nV 0 8 Tryz.underlying61 hi hz0 hz1 hz2 cells_n .i64 .i64 _ _ n rfl rfl rfl rfl n8 n9 ?_; intro w2 hrow hb2) | fail)
      have HV2 := Lib.hid (HV1.out.bel hb2)
      have HI2 := Lib.hid (HIB.out _ _ hb2 HI1.out)
      have HB2 := Lib.hid (HB1.out.trans hb2)
      have HR2 : Hid (NArr w2 W.heap.size n (List.replicate n 0)) := hrow
      have K2 := Lib.hid (K.out.bel hb2)
      have hrw : w.heap.size < W.heap.size := by have := HSZ.out; omega
      generalize hrb : W.heap.size = rb at HR2 hrw ⊢
      clear hrow hb2 HV1 HI1 HB1 K HSZ hce hrb
      go_loopw [32] (fun i wr => ∃ k : Nat, k ≤ L ∧ i = .int .i64 k ∧ NArr wr g cap (alongA F n t xs k) ∧ (∃ rw0 : List Nat, Hid (rw0.length = n) ∧ NArr wr rb n rw0) ∧ Bel w0 wr ∧ V3 wr w.heap.size n0 n1 n2 ∧ I wr) (fun i _ => L - (intOf i).toNat)
      case atStart => exact ⟨0, Nat.zero_le _, rfl, HV2.out, ⟨_, by simp [Hid], HR2.out⟩, HB2.out, K2.out, HI2.out⟩
      case round =>
        clear HV2 HI2 HB2 HR2 K2
        obtain ⟨k, hk, rfl, hv, ⟨rw0, hrl, hrow⟩, hbw, hk3, hI⟩ := hrel
        by_cases hlt : k < L
        · have hce := hk3.at HE.out
          have q0 : (0 : Int) ≤ (k : Int) / t := Int.ediv_nonneg (by omega) (by omega)
          have q1 : (k : Int) / t ≤ k := Int.ediv_le_self _ (by omega)
          have q2 : (0 : Int) ≤ (k : Int) / t % n := Int.emod_nonneg _ (by omega)
          have q3 : (k : Int) / t % n < n := Int.emod_lt_of_pos _ (by omega)
          have t1 : (k : Int).tdiv t = (k : Int) / t := Int.tdiv_eq_ediv_of_nonneg (by omega)
          have t2 : ((k : Int) / t).tmod n = (k : Int) / t % n := Int.tmod_eq_emod_of_nonneg q0
          have t3 : IntKind.i64.wrap ((k : Int) / t) = (k : Int) / t := IntWalk.i64_in _ (by omega)
          have t4 : IntKind.i64.wrap ((k : Int) / t % n) = (k : Int) / t % n := IntWalk.i64_in _ (by omega)
          have z1 : ¬ t = 0 := by omega
          have z2 : ¬ n = 0 := by omega
          have HC : Hid (((k / t % n : Nat) : Int) = (k : Int) / t % n) := by unfold Hid; rw [Int.natCast_emod, Int.natCast_ediv]
          have hkL : (k : Int) < L := by omega
          have HV := Lib.hid hv
          have HR := Lib.hid hrow
          have HB := Lib.hid hbw
          have HK3 := Lib.hid hk3
          have HII := Lib.hid hI
          have HRL := Lib.hid hrl.out
          obtain ⟨wo, rfl⟩ : ∃ wo : World, wo = wr := ⟨_, rfl⟩
          have hgo : rb < wo.heap.size := hrow.lt
          by_cases hzk : k / t % n = 0
          · have c1 : ((k : Int) / t % n != 0) = false := by rw [← HC.out, hzk]; rfl
            have c2 : (k : Int) / t % n = 0 := by rw [← HC.out, hzk]; rfl
            have HK := Lib.hid hzk
            have HSTEP : Hid (alongA F n t xs (k + 1) = putA t (alongA F n t xs k) k (F (rowA n t (alongA F n t xs k) k)) n) := by unfold Hid; rw [alongA, if_pos hzk]
            have HYL : Hid ((alongA F n t xs k).length = L) := by unfold Hid; rw [alongA_length, HL.out]
            have HYP := Lib.hid (HP.out k)
            generalize hys : alongA F n t xs k = ys at HV HSTEP HYL HYP
            clear hv hrow hbw hk3 hI hrl hzk hys
            go_wp2_with fail
            go_region_held3 (fun w' => w'.cell? ⟨w.heap.size, edge, none⟩ = some (.int .i64 n)) (go_keep) (fail)
            clear t1 t2 t3 t4 q0 q1 q2 q3 c1 c2 HC hce
            go_wp2_with fail
            go_loopw [45] (fun i wr => ∃ j : Nat, j ≤ n ∧ i = .int .i64 j ∧ NArr wr rb n (mixA rw0 (rowA n t ys k) j) ∧ NArr wr g cap ys ∧ Bel w0 wr ∧ V3 wr w.heap.size n0 n1 n2 ∧ I wr) (fun i _ => n - (intOf i).toNat)
            case atStart => exact ⟨0, Nat.zero_le _, rfl, (HR.out.drew).ext (mixA_zero _ _).symm, HV.out.drew, HB.out.drew, HK3.out.bel (Bel.refl _).drew, HIB.out _ _ (Bel.refl _).drew HII.out⟩
            case round =>
              clear HV HR HB HK3 HII
              obtain ⟨j, hj, rfl, hrow, hv, hbw, hk3, hI⟩ := hrel
              by_cases hltj : j < n
              · have hlt3 : k + j * t < L := by have := HM.out; rw [this]; exact along_ltA k t n m j (by omega) (by rw [← this]; omega) HK.out hltj
                have p1 : IntKind.i64.wrap ((j : Int) * (t : Int)) = ((j * t : Nat) : Int) := by
                  rw [← Int.natCast_mul]; exact IntWalk.i64_in _ (by omega)
                have p2 : IntKind.i64.wrap ((k : Int) + ((j * t : Nat) : Int)) = ((k + j * t : Nat) : Int) := by
                  rw [IntWalk.i64_in _ (by omega)]; simp
                have hc1 := hv.cell (i := k + j * t) (by rw [HYL.out]; exact hlt3) 0
                have hc2 := cellD_eq (hrow.cell (i := j) (by rw [mixA_length, HRL.out]; exact hltj) 0)
                have hf2 := hrow.frozen j
                have HG : Hid ((rowA n t ys k).getD j 0 = ys.getD (k + j * t) 0) := rowA_get _ _ _ _ _ hltj
                have HV := Lib.hid hv
                have HR := Lib.hid hrow
                have HB := Lib.hid hbw
                have HK3 := Lib.hid hk3
                have HII := Lib.hid hI
                generalize hx : ys.getD (k + j * t) 0 = x at hc1 HG
                generalize hjt : j * t = jt at p1 p2 hc1 hlt3
                generalize hkj : k + jt = kj at p2 hc1 hlt3
                have r1 : (kj : Int) < L := by omega
                have r2 : (j : Int) < n := by omega
                clear hv hrow hbw hk3 hI hx hjt hkj hlt3
                go_wp2_with fail
                go_roundw
                case rel => exact ⟨j + 1, by omega, by go_num, (HR.out.store j x).ext (by rw [← HG.out]; exact mixA_succ _ _ j), HV.out.setOther (by show rb ≠ g; omega) _, HB.out.setCell (by show w0.heap.size ≤ rb; omega) _, HK3.out.far (by show w.heap.size ≠ rb; omega) _, HIR.out _ _ _ _ (by omega) HII.out⟩
                case measure => simp [intOf]; omega
              · have hjn : n = j := by omega
                subst hjn
                have HR : Hid (NArr wr rb n (rowA n t ys k)) := hrow.ext (by rw [← HRL.out]; exact mixA_all _ _ (by rw [rowA_length, HRL.out]))
                have HV := Lib.hid hv
                have HB := Lib.hid hbw
                have HK3 := Lib.hid hk3
                have HII := Lib.hid hI
                have HCALL := Lib.hid (HFC.out wr rb (rowA n t ys k) hI (rowA_length _ _ _ _) (rowA_lt HYP.out k) (fun i hi => by rw [Nat.zero_add]; exact HR.out.cell (by rw [rowA_length]; exact hi) _))
                have HRP := Lib.hid (HFL.out (rowA n t ys k) (rowA_length _ _ _ _))
                generalize hr : F (rowA n t ys k) = r at HCALL HSTEP HRP
                clear hrow hv hbw hk3 hI hr
                go_wp2_with fail
                refine HCALL.out.mono ?_
                rintro e w2 ⟨⟨gr, cr, rfl, hlr, hgr, har⟩, hb2⟩
                have HV2 : Hid (NArr w2 g cap ys) := HV.out.bel hb2
                have HR2 : Hid (NArr w2 rb n (rowA n t ys k)) := HR.out.bel hb2
                have HB2 : Hid (Bel w0 w2) := HB.out.trans hb2
                have HA2 : Hid (NArr w2 gr cr r) := har
                have HK2 := Lib.hid (HK3.out.bel hb2)
                have HI2 := Lib.hid (HIB.out _ _ hb2 HII.out)
                have hwr : rb < wr.heap.size := HR.out.lt
                have hgwr : g < wr.heap.size := HV.out.lt
                clear har hb2 HV HR HB HCALL HK3 HII
                go_wp2_with fail
                go_loopw [64] (fun i wr => ∃ q : Nat, q ≤ n ∧ i = .int .i64 q ∧ NArr wr g cap (putA t ys k r q) ∧ NArr wr gr cr r ∧ NArr wr rb n (rowA n t ys k) ∧ Bel w0 wr ∧ V3 wr w.heap.size n0 n1 n2 ∧ I wr) (fun i _ => n - (intOf i).toNat)
                case atStart => exact ⟨0, Nat.zero_le _, rfl, HV2.out, HA2.out, HR2.out, HB2.out, HK2.out, HI2.out⟩
                case round =>
                  clear HV2 HA2 HR2 HB2 HK2 HI2
                  obtain ⟨q, hq, rfl, hv, har, hrow, hbw, hk3, hI⟩ := hrel
                  by_cases hltq : q < n
                  · have hlt3 : k + q * t < L := by have := HM.out; rw [this]; exact along_ltA k t n m q (by omega) (by rw [← this]; omega) HK.out hltq
                    have p1 : IntKind.i64.wrap ((q : Int) * (t : Int)) = ((q * t : Nat) : Int) := by
                      rw [← Int.natCast_mul]; exact IntWalk.i64_in _ (by omega)
                    have p2 : IntKind.i64.wrap ((k : Int) + ((q * t : Nat) : Int)) = ((k + q * t : Nat) : Int) := by
                      rw [IntWalk.i64_in _ (by omega)]; simp
                    have hc1 := har.cell (i := q) (by rw [hlr.out]; exact hltq) 0
                    have hc2 := cellD_eq (hv.cell (i := k + q * t) (by rw [putA_length, HYL.out]; exact hlt3) 0)
                    have hf2 := hv.frozen (k + q * t)
                    have HV : Hid (∀ x, NArr (wr.setCell ⟨g, k + q * t, none⟩ (nV x)) g cap ((putA t ys k r q).set (k + q * t) x)) := fun x => hv.store _ x
                    have HA := Lib.hid har
                    have HR := Lib.hid hrow
                    have HB := Lib.hid hbw
                    have HK3 := Lib.hid hk3
                    have HII := Lib.hid hI
                    have HX : Hid (putA t ys k r (q + 1) = (putA t ys k r q).set (k + q * t) (r.getD q 0)) := rfl
                    generalize hx : r.getD q 0 = x at hc1 HX
                    generalize hjt : q * t = jt at p1 p2 hc2 hf2 hlt3 HV HX
                    generalize hkj : k + jt = kj at p2 hc2 hf2 hlt3 HV HX
                    have r1 : (kj : Int) < L := by omega
                    have r2 : (q : Int) < n := by omega
                    clear hv har hrow hbw hk3 hI hx hjt hkj hlt3
                    go_wp2_with fail
                    go_roundw
                    case rel => exact ⟨q + 1, by omega, by go_num, by rw [HX.out]; exact HV.out x, HA.out.setOther (by show g ≠ gr; omega) _, HR.out.setOther (by show g ≠ rb; omega) _, HB.out.setCell hg _, HK3.out.far (by show w.heap.size ≠ g; omega) _, HIS.out _ _ _ HII.out⟩
                    case measure => simp [intOf]; omega
                  · have hqn : n = q := by omega
                    subst hqn
                    have HV := Lib.hid hv
                    have HR := Lib.hid hrow
                    have HB := Lib.hid hbw
                    have HK3 := Lib.hid hk3
                    have HII := Lib.hid hI
                    clear hv har hrow hbw hk3 hI
                    go_wp2_with fail
                    go_roundw
                    case rel => exact ⟨k + 1, by omega, by go_num, by rw [HSTEP.out]; exact HV.out, ⟨_, rowA_length _ _ _ _, HR.out⟩, HB.out, HK3.out, HII.out⟩
                    case measure => simp [intOf]; omega
          · have c1 : ((k : Int) / t % n != 0) = true := by
              rw [← HC.out]; exact bne_iff_ne.2 (fun h => hzk (Int.natCast_eq_zero.1 h))
            have c2 : ¬ ((k : Int) / t % n = 0) := by
              rw [← HC.out]; exact fun h => hzk (Int.natCast_eq_zero.1 h)
            have HSTEP : Hid (alongA F n t xs (k + 1) = alongA F n t xs k) := by unfold Hid; rw [alongA, if_neg hzk]
            clear hv hrow hbw hk3 hI hrl hzk
            go_wp2_with fail
            go_region_held3 (fun w' => w'.cell? ⟨w.heap.size, edge, none⟩ = some (.int .i64 n)) (go_keep) (fail)
            clear t1 t2 t3 t4 q0 q1 q2 q3 HC hce
            go_wp2_with fail
            go_roundw
            case rel => exact ⟨k + 1, by omega, by go_num, by rw [HSTEP.out]; exact HV.out.drew, ⟨rw0, HRL.out, HR.out.drew⟩, HB.out.drew, HK3.out.bel (Bel.refl _).drew, HIB.out _ _ (Bel.refl _).drew HII.out⟩
            case measure => simp [intOf]; omega
        · have hkl : L = k := by omega
          subst hkl
          have HV := Lib.hid hv
          have HB := Lib.hid hbw
          have HII := Lib.hid hI
          clear hv hrow hbw hk3 hI
          go_wp2_with fail
          go_end0
          exact ⟨rfl, HV.out, HB.out, HII.out⟩

end Go.Proofs.YtehiabiahipkhaaGreat
