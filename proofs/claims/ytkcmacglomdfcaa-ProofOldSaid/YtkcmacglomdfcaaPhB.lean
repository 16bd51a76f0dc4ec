/-
  THE WALK of proof.Extends, where the proof is as long as it ought to be.
-/
import Derived.Test.YtkcmacglomdfcaaPhA
namespace Go.Proofs.Ytkcmacglomdfcaa
open Go.RowKit

section
variable {F : List UInt8 → List UInt8} (HF : Dig F)
include HF
set_option maxRecDepth 100000 in
set_option maxHeartbeats 8000000 in
theorem extends_yes (w : World) (m n : Nat) (h0 : 1 ≤ m) (hm : m ≤ n) (hn : n ≤ 1048576) (old root : Dg) (ho : old.length = 32) (hrt : root.length = 32) (B : Option Addr) (k c : Nat) (ps : List Dg) (hs : RS w B k ps) (hkc : k ≤ c) (hk : k = needsF m n true) :
    Calls Try.prog 66 #[.int .i64 (m : Int), .int .i64 (n : Int), SumV old, SumV root, .slice B k c] w fun e w' => e = .returned (.bool ((bothF F m n true old ps).1 == old && (bothF F m n true old ps).2 == root)) ∧ Below w.heap.size w w' := by

  obtain ⟨q, hq⟩ : ∃ q, q = ((bothF F m n true old ps).1 == old && (bothF F m n true old ps).2 == root) := ⟨_, rfl⟩
  rw [← hq]
  cases hal : (stepsF m n).all id with
  | true =>
    have HX := two_boxesE w old root
    have d1 : decide ((n : Int) < 1) = false := decide_eq_false (by omega)
    have d2 : decide ((1048576 : Int) < (n : Int)) = false := decide_eq_false (by omega)
    have d3 : decide ((m : Int) < 1) = false := decide_eq_false (by omega)
    have d4 : decide ((n : Int) < (m : Int)) = false := decide_eq_false (by omega)
    have d4' : decide (n < m) = false := decide_eq_false (by omega)
    obtain ⟨T, hT⟩ : ∃ T, T = (stepsF m n).reverse := ⟨_, rfl⟩
    obtain ⟨t, htl⟩ : ∃ t, t = T.length := ⟨_, rfl⟩
    have htn : t ≤ n := by rw [htl, hT, List.length_reverse]; exact stepsF_len n m h0
    have hst := fun w => steps_any w m n h0 hm hn
    have hall : (stepsF m n).all id = true := hal
    have hneed : needsF m n true = t + 0 := by rw [needsF, hall, htl, hT, List.length_reverse]; rfl
    rw [← hT, hall] at hst
    have HST : Hid (∀ u, Calls Try.prog 94 #[.int .i64 (m : Int), .int .i64 (n : Int)] u fun e w' => ∃ A c, e = .returned (.tuple #[.slice A t c, .bool true]) ∧ w'.ownsRow u.heap.size 140 1 (.slice A t c) t (T.map Value.bool) ∧ Below u.heap.size u w') := Lib.hid fun u => by
      have h := hst u
      unfold StepsPost at h
      rw [← htl] at h
      exact h
    have Hs := Lib.hid (And.intro ho (And.intro hs (And.intro hT (And.intro htl hneed))))
    have hio := info_of old ho
    have hio' := info_of' old ho
    have HO := Lib.hid ho
    have HNd0 := node_any HF
    have HNd := Lib.hid HNd0
    have HF32' := Lib.hid HF.len
    have hir := info_of root hrt
    have HRt := Lib.hid hrt
    have eg1 := enters_of Try.func33 (by kernel_rfl) rfl
    clear HNd0
    have hkt : k = t := by omega
    subst hkt
    have hboth : bothF F m n true old ps = foldE F (old, old) T ps := by rw [bothF, startE, restE, hT]; simp [hal]
    rw [hboth] at hq
    have Hq := Lib.hid hq
    have hkk : ((k : Int) != (k : Int)) = false := by simp
    have HRS : Hid (∀ u, Below w.heap.size w u → RS u B k ps) := Lib.hid fun u hu => hs.below hu
    have HTl : Hid (T.length = k ∧ T.length = ps.length) := Lib.hid ⟨htl.symm, by rw [hs.len, ← htl]⟩
    have HF32 := Lib.hid ho
    have hif := hio
    have hif' := hio'
    clear hs hT htl hneed hst hall hal ho hq hboth hk Hs hrt
    unfold SumV
    go_enter Try.func66, Try.ntmps66
    go_wp2_with fail
    refine (HST.out _).mono ?_
    rintro e w3 ⟨At, ct, rfl, hown, hb3⟩
    have hx0 := HX.out _ _ rfl rfl _ rfl
    have H3 := Lib.hid (And.intro (hx0.stable hb3) (ownsRow_base (base' := w.heap.size + 2) hown hx0.sz))
    clear hown hb3 hx0
    go_wp2_with (first
      | ((with_reducible show wpList _ _ _ (⟨_, Op.load 26 (.tmp 7), _, _, _, _⟩ :: _) _ _); refine wpList_load_mid rfl _ _ rfl w.heap.size 0 rfl (old.map B8) _ H3.out.1.r0 Try.underlying26 rfl hio ?_; simp only [Act.put, List.setIfInBounds_toArray, List.set_cons_zero, List.set_cons_succ])
      | ((with_reducible show wpList _ _ _ (⟨_, Op.store 26 (.tmp 13) _, _, _, _, _⟩ :: _) _ _); refine wpList_store_row rfl _ _ _ rfl w3.heap.size 0 (old.map B8).toArray rfl rfl (there_new' _ _ _ (by simp [HO.out])) hio' (b8_all old) ?_; intro w4 hg4 hs4 ht4 hth4; rw [List.toList_toArray] at ht4; have H4 := Lib.hid (ExM.mk4 H3.out hg4 ht4 (by simpa [HO.out] using hth4)); clear hg4 hs4 hth4 ht4))
    have HM := H4
    obtain ⟨W, hW⟩ : ∃ W, W = w4 := ⟨_, rfl⟩
    rw [← hW] at HM ⊢
    have HW : Hid (Below w.heap.size w W) := Lib.hid HM.out.fr.below
    clear hW H4
    refine code_via (fun a0 a' w' => ∃ b0 b1, a' = (((a0.put (some 55) (.agg (old.map B8).toArray)).put (some 56) (.agg (old.map B8).toArray)).put (some 14) (.pointer (some ⟨b0, 0, none⟩))).put (some 15) (.pointer (some ⟨b1, 0, none⟩)) ∧ ExI W b0 b1 old old w') ?_ ?_
    · refine wp_region_noPanic ?_
      refine wp_region_movesA 2 (fun u => Below W.heap.size W u) (fun u u' => u = u') (fun u => rfl) (fun h k => h.trans k) (by kernel_rfl) (by kernel_rfl) (below_drewN (Below.refl _ _) 1) (fun _ _ _ _ _ h => h) ?_
      simp only [List.take_succ_cons, List.take_zero, List.drop_succ_cons, List.drop_zero]
      refine wpMH_loadW (fun u => rfl) (by rfl) _ _ rfl w3.heap.size 0 rfl (old.map B8) _ (fun u hu => rangeAt_below' HM.out.f0 hu) Try.underlying26 rfl hif ?_
      simp only [Act.put, List.setIfInBounds_toArray, List.set_cons_zero, List.set_cons_succ]
      refine wpMH_loadW (fun u => rfl) (by rfl) _ _ rfl w3.heap.size 0 rfl (old.map B8) _ (fun u hu => rangeAt_below' HM.out.f0 hu) Try.underlying26 rfl hif ?_
      simp only [Act.put, List.setIfInBounds_toArray, List.set_cons_zero, List.set_cons_succ]
      refine wpMH_nil ?_
      obtain ⟨Wd, hWd⟩ : ∃ Wd, Wd = W.drew := ⟨_, rfl⟩
      have hbd : Below W.heap.size W Wd := by rw [hWd]; exact below_drewN (Below.refl _ _) 1
      rw [← hWd]
      clear hWd
      have HTM := two_made Wd
      refine wpAnyM_two 2 3 (by kernel_rfl) rfl rfl ?_ ?_
      · rintro u1 - rfl
        go_wp2_with fail
        refine ⟨hbd.alloc hbd.size _, ?_⟩
        refine wpAnyM_one 3 (by kernel_rfl) rfl ?_
        rintro u2 - rfl
        go_wp2_with fail
        refine ⟨(hbd.alloc hbd.size _).alloc (by simp; have := hbd.size; omega) _, ?_⟩
        refine wpAnyM_one 4 (by kernel_rfl) rfl ?_
        simp only [List.getElem_toArray, List.getElem_cons_succ, List.getElem_cons_zero]
        rintro u3 - e3
        have hmm := HTM.out _ (by rfl) u3 e3.symm
        have hth3 : u3.there (Wd.heap.size) 0 (old.map B8).toArray.size := by rw [show (old.map B8).toArray.size = 32 by simp [HF32.out]]; exact hmm.2.1
        clear e3
        go_wp2_with ((with_reducible show wpList _ _ _ (⟨_, Op.store 26 _ _, _, _, _, _⟩ :: _) _ _); refine wpList_store_row rfl _ _ _ rfl (Wd.heap.size) 0 (old.map B8).toArray rfl rfl hth3 hif' (b8_all old) ?_; intro w5 hg5 hs5 ht5 hth5; rw [List.toList_toArray] at ht5; have H5 := Lib.hid (And.intro (hmm.1.grown hg5 hmm.1.size (by intro k hk; cases hk; omega)) (And.intro ht5 (And.intro hth5 (there_grownB hmm.2.2 (by decide) hg5 (by simp))))); clear hg5 hs5 ht5 hth5 hmm hth3)
        have h5 := hbd.trans (H5.out.1.mono hbd.size)
        refine ⟨h5, ?_⟩
        refine wpAnyM_one 5 (by kernel_rfl) rfl ?_
        simp only [List.getElem_toArray, List.getElem_cons_succ, List.getElem_cons_zero]
        rintro u4 - rfl
        have hth4 : w5.there (Wd.heap.size + 1) 0 (old.map B8).toArray.size := by rw [show (old.map B8).toArray.size = 32 by simp [HF32.out]]; exact H5.out.2.2.2
        go_wp2_with ((with_reducible show wpList _ _ _ (⟨_, Op.store 26 _ _, _, _, _, _⟩ :: _) _ _); refine wpList_store_row rfl _ _ _ rfl (Wd.heap.size + 1) 0 (old.map B8).toArray rfl rfl hth4 hif' (b8_all old) ?_; intro w6 hg6 hs6 ht6 hth6; rw [List.toList_toArray] at ht6; have H6 := Lib.hid (And.intro (h5.grown hg6 h5.size (by intro k hk; cases hk; have := hbd.size; omega)) (And.intro (range_grown H5.out.2.1 hg6 (by simp)) (And.intro (there_grownB (show w5.there (Wd.heap.size) 0 32 by simpa [HF32.out] using H5.out.2.2.1) (by decide) hg6 (by simp)) (And.intro ht6 (show w6.there (Wd.heap.size + 1) 0 32 by simpa [HF32.out] using hth6))))); clear hg6 hs6 ht6 hth6)
        refine ⟨H6.out.1, ?_⟩
        refine wpAnyM_nil (by kernel_rfl) ?_
        rintro u5 - rfl
        refine NoPanic.normal ⟨rfl, Wd.heap.size, Wd.heap.size + 1, rfl, H6.out.1, by have := hbd.size; omega, by have := hbd.size; omega, by omega, HF32.out, HF32.out, H6.out.2.1, H6.out.2.2.2.1, H6.out.2.2.1, H6.out.2.2.2.2⟩
      · rintro u1 - rfl
        go_wp2_with fail
        refine ⟨hbd.alloc hbd.size _, ?_⟩
        refine wpAnyM_one 2 (by kernel_rfl) rfl ?_
        rintro u2 - rfl
        go_wp2_with fail
        refine ⟨(hbd.alloc hbd.size _).alloc (by simp; have := hbd.size; omega) _, ?_⟩
        refine wpAnyM_one 4 (by kernel_rfl) rfl ?_
        simp only [List.getElem_toArray, List.getElem_cons_succ, List.getElem_cons_zero]
        rintro u3 - e3
        have hmm := HTM.out _ (by rfl) u3 e3.symm
        have hth3 : u3.there (Wd.heap.size + 1) 0 (old.map B8).toArray.size := by rw [show (old.map B8).toArray.size = 32 by simp [HF32.out]]; exact hmm.2.2
        clear e3
        go_wp2_with ((with_reducible show wpList _ _ _ (⟨_, Op.store 26 _ _, _, _, _, _⟩ :: _) _ _); refine wpList_store_row rfl _ _ _ rfl (Wd.heap.size + 1) 0 (old.map B8).toArray rfl rfl hth3 hif' (b8_all old) ?_; intro w5 hg5 hs5 ht5 hth5; rw [List.toList_toArray] at ht5; have H5 := Lib.hid (And.intro (hmm.1.grown hg5 hmm.1.size (by intro k hk; cases hk; omega)) (And.intro ht5 (And.intro hth5 (there_grownB hmm.2.1 (by decide) hg5 (by simp))))); clear hg5 hs5 ht5 hth5 hmm hth3)
        have h5 := hbd.trans (H5.out.1.mono hbd.size)
        refine ⟨h5, ?_⟩
        refine wpAnyM_one 5 (by kernel_rfl) rfl ?_
        simp only [List.getElem_toArray, List.getElem_cons_succ, List.getElem_cons_zero]
        rintro u4 - rfl
        have hth4 : w5.there (Wd.heap.size) 0 (old.map B8).toArray.size := by rw [show (old.map B8).toArray.size = 32 by simp [HF32.out]]; exact H5.out.2.2.2
        go_wp2_with ((with_reducible show wpList _ _ _ (⟨_, Op.store 26 _ _, _, _, _, _⟩ :: _) _ _); refine wpList_store_row rfl _ _ _ rfl (Wd.heap.size) 0 (old.map B8).toArray rfl rfl hth4 hif' (b8_all old) ?_; intro w6 hg6 hs6 ht6 hth6; rw [List.toList_toArray] at ht6; have H6 := Lib.hid (And.intro (h5.grown hg6 h5.size (by intro k hk; cases hk; have := hbd.size; omega)) (And.intro (range_grown H5.out.2.1 hg6 (by simp)) (And.intro (there_grownB (show w5.there (Wd.heap.size + 1) 0 32 by simpa [HF32.out] using H5.out.2.2.1) (by decide) hg6 (by simp)) (And.intro ht6 (show w6.there (Wd.heap.size) 0 32 by simpa [HF32.out] using hth6))))); clear hg6 hs6 ht6 hth6)
        refine ⟨H6.out.1, ?_⟩
        refine wpAnyM_nil (by kernel_rfl) ?_
        rintro u5 - rfl
        refine NoPanic.normal ⟨rfl, Wd.heap.size + 1, Wd.heap.size, rfl, H6.out.1, by have := hbd.size; omega, by have := hbd.size; omega, by omega, HF32.out, HF32.out, H6.out.2.1, H6.out.2.2.2.1, H6.out.2.2.1, H6.out.2.2.2.2⟩
    · rintro a' w' ⟨b0, b1, rfl, hI⟩
      simp only [Act.put, List.setIfInBounds_toArray, List.set_cons_zero, List.set_cons_succ]
      have h00 : Hid (∃ y : Dg × Dg, y = foldE F (old, old) (T.take 0) (ps.take 0) ∧ ExI W b0 b1 y.1 y.2 w') := Lib.hid ⟨(old, old), by simp [foldE], hI⟩
      clear hI
      go_wp2_with fail
      go_loopw [59] (fun iv wr => ∃ j : Nat, j ≤ k ∧ iv = .int .i64 (j : Int) ∧ Hid (∃ y : Dg × Dg, y = foldE F (old, old) (T.take j) (ps.take j) ∧ ExI W b0 b1 y.1 y.2 wr)) (fun iv _ => k - (intOf iv).toNat)
      case atStart => exact ⟨0, Nat.zero_le _, rfl, h00⟩
      case round =>
        obtain ⟨j, hj, rfl, hqq⟩ := hrel
        obtain ⟨⟨ya, yb⟩, hy, hI0⟩ := hqq.out
        have hI : ExI W b0 b1 ya yb wr := hI0
        have hbw : Below w.heap.size w wr := HW.out.trans (hI.below.mono HW.out.size)
        have hwa := hI.w32
        have hwb := hI.n32
        have hia := info_of ya hwa
        have hib := info_of yb hwb
        clear hI0 h00 hqq
        by_cases hjl : j < k
        · obtain ⟨bx, ox, x, hBx, hx, hx32, hrx⟩ := (HRS.out wr hbw).at_ hjl
          obtain ⟨tb, htb⟩ : ∃ tb, T[j]? = some tb := ⟨_, List.getElem?_eq_getElem (by rw [HTl.out.1]; exact hjl)⟩
          obtain ⟨g, cap, hv, -, -⟩ := HM.out.own.form (by omega)
          injection hv with hv1 _ hv3
          have hcT : ∀ u, Below W.heap.size W u → u.cell? ⟨g, j, none⟩ = some (.bool tb) := fun u hu => by
            have := (ownsRow_below HM.out.own hu).cells (g := g) (by rw [hv1]; rfl) j (.bool tb) (by rw [List.getElem?_map, htb]; rfl)
            rw [Addr.add_mid, Nat.zero_add] at this
            exact this
          subst hv1
          subst hv3
          subst hBx
          have hnext := foldE_next HTl.out.2 htb hx hy
          have hix := info_of x hx32
          have hix' := info_of' x hx32
          have HI := Lib.hid hI
          have HcT := Lib.hid hcT
          have Hx32 := Lib.hid hx32
          obtain ⟨d1, hd1⟩ : ∃ d, d = nodeF F x ya := ⟨_, rfl⟩
          obtain ⟨d2, hd2⟩ : ∃ d, d = nodeF F x yb := ⟨_, rfl⟩
          obtain ⟨d3, hd3⟩ : ∃ d, d = nodeF F yb x := ⟨_, rfl⟩
          have hd132 : d1.length = 32 := by rw [hd1]; exact HF32'.out _
          have hd232 : d2.length = 32 := by rw [hd2]; exact HF32'.out _
          have hd332 : d3.length = 32 := by rw [hd3]; exact HF32'.out _
          have HN1 : Hid (∀ u : World, Calls Try.prog 33 #[.agg (x.map B8).toArray, .agg (ya.map B8).toArray] u fun e w' => e = .returned (.agg (d1.map B8).toArray) ∧ Below u.heap.size u w') := Lib.hid fun u => by rw [hd1]; exact HNd.out u x ya hx32 hwa
          have HN2 : Hid (∀ u : World, Calls Try.prog 33 #[.agg (x.map B8).toArray, .agg (yb.map B8).toArray] u fun e w' => e = .returned (.agg (d2.map B8).toArray) ∧ Below u.heap.size u w') := Lib.hid fun u => by rw [hd2]; exact HNd.out u x yb hx32 hwb
          have HN3 : Hid (∀ u : World, Calls Try.prog 33 #[.agg (yb.map B8).toArray, .agg (x.map B8).toArray] u fun e w' => e = .returned (.agg (d3.map B8).toArray) ∧ Below u.heap.size u w') := Lib.hid fun u => by rw [hd3]; exact HNd.out u yb x hwb hx32
          rw [← hd1, ← hd2, ← hd3] at hnext
          have Hnext := Lib.hid hnext
          have H32 := Lib.hid (And.intro hd132 (And.intro hd232 hd332))
          have hi1' := info_of' d1 hd132
          have hi2' := info_of' d2 hd232
          have hi3' := info_of' d3 hd332
          have hjk : (j : Int) < (k : Int) := by omega
          have hj0 : (0 : Int) ≤ (j : Int) := by omega
          clear hI hcT hx htb hnext hd1 hd2 hd3 hy hbw hwa hwb
          obtain ⟨wo, rfl⟩ : ∃ wo : World, wo = wr := ⟨_, rfl⟩
          cases tb with
          | true =>
            go_wp2_with (first
              | ((with_reducible show wpList _ _ _ (⟨_, Op.load 26 (.tmp 62), _, _, _, _⟩ :: _) _ _); refine wpList_load_mid rfl _ _ rfl bx (ox + j * 32) rfl (x.map B8) _ hrx Try.underlying26 rfl hix ?_; simp only [Act.put, List.setIfInBounds_toArray, List.set_cons_zero, List.set_cons_succ])
              | ((with_reducible show wpList _ _ _ (⟨_, Op.store 26 (.tmp 17) _, _, _, _, _⟩ :: _) _ _); refine wpList_store_row rfl _ _ _ rfl wo.heap.size 0 (x.map B8).toArray rfl rfl (there_new' _ _ _ (by simp [Hx32.out])) hix' (b8_all x) ?_; intro w8 hg8 hs8 ht8 hth8; rw [List.toList_toArray] at ht8; have hb8 : Below wo.heap.size wo w8 := ((Below.refl _ _).alloc (Nat.le_refl _) _).grown hg8 (by simp) (by intro k hk; cases hk; exact Nat.le_refl _); have H8 := Lib.hid (And.intro (HI.out.stable hb8) True.intro); have hcT := HcT.out _ H8.out.1.below; clear hg8 hs8 hth8 hb8)
              | ((with_reducible show wpList _ _ _ (⟨_, Op.load 26 (.tmp 15), _, _, _, _⟩ :: _) _ _); refine wpList_load_mid rfl _ _ rfl b1 0 rfl (yb.map B8) _ H8.out.1.r1 Try.underlying26 rfl hib ?_; simp only [Act.put, List.setIfInBounds_toArray, List.set_cons_zero, List.set_cons_succ])
              | ((with_reducible show wpList _ _ _ (⟨_, Op.load 26 (.tmp 17), _, _, _, _⟩ :: _) _ _); refine wpList_load_mid rfl _ _ rfl wo.heap.size 0 rfl (x.map B8) _ ht8 Try.underlying26 rfl hix ?_; simp only [Act.put, List.setIfInBounds_toArray, List.set_cons_zero, List.set_cons_succ]))
            refine (HN3.out _).mono ?_
            rintro e w9 ⟨rfl, hb9⟩
            have H9 := Lib.hid (H8.out.1.stable hb9)
            have hth : w9.there b1 0 (d3.map B8).toArray.size := sz_there H32.out.2.2 H9.out.t1
            clear hb9 ht8 hcT hrx
            go_wp2_with ((with_reducible show wpList _ _ _ (⟨_, Op.store 26 (.tmp 15) _, _, _, _, _⟩ :: _) _ _); refine wpList_store_row rfl _ _ _ rfl b1 0 (d3.map B8).toArray rfl rfl hth hi3' (b8_all d3) ?_; intro w10 hg10 hs10 ht10 hth10; rw [List.toList_toArray] at ht10; have H10 := Lib.hid (H9.out.put1 hg10 ht10 (there_sz H32.out.2.2 hth10) H32.out.2.2); clear hg10 hs10 ht10 hth10)
            have HR : Hid (∃ y : Dg × Dg, y = foldE F (old, old) (T.take (j + 1)) (ps.take (j + 1)) ∧ ExI W b0 b1 y.1 y.2 w10) := Lib.hid ⟨(ya, d3), Hnext.out.symm, H10.out⟩
            clear hth
            go_roundw
            case rel => exact ⟨j + 1, hjl, by go_num, HR⟩
            case measure => simp [intOf]; omega
          | false =>
            go_wp2_with (first
              | ((with_reducible show wpList _ _ _ (⟨_, Op.load 26 (.tmp 62), _, _, _, _⟩ :: _) _ _); refine wpList_load_mid rfl _ _ rfl bx (ox + j * 32) rfl (x.map B8) _ hrx Try.underlying26 rfl hix ?_; simp only [Act.put, List.setIfInBounds_toArray, List.set_cons_zero, List.set_cons_succ])
              | ((with_reducible show wpList _ _ _ (⟨_, Op.store 26 (.tmp 17) _, _, _, _, _⟩ :: _) _ _); refine wpList_store_row rfl _ _ _ rfl wo.heap.size 0 (x.map B8).toArray rfl rfl (there_new' _ _ _ (by simp [Hx32.out])) hix' (b8_all x) ?_; intro w8 hg8 hs8 ht8 hth8; rw [List.toList_toArray] at ht8; have hb8 : Below wo.heap.size wo w8 := ((Below.refl _ _).alloc (Nat.le_refl _) _).grown hg8 (by simp) (by intro k hk; cases hk; exact Nat.le_refl _); have H8 := Lib.hid (And.intro (HI.out.stable hb8) True.intro); have hcT := HcT.out _ H8.out.1.below; clear hg8 hs8 hth8 hb8))
            have h8d := H8.out.1.stable (below_drewN (Below.refl _ _) 1)
            have ht8d := rangeAt_below' ht8 (below_drewN (Below.refl _ w8) 1)
            clear hcT hrx ht8
            obtain ⟨bp, hbp⟩ : ∃ bp, bp = wo.heap.size := ⟨_, rfl⟩
            rw [← hbp] at ht8d ⊢
            clear hbp
            refine wp_region_noPanic ?_
            refine wp_region_movesT 6 (fun u => ExI W b0 b1 ya yb u ∧ u.rangeAt bp 0 (x.map B8)) (fun u u' => Below u.heap.size u u') (fun u => Below.refl _ _) (fun h k => h.trans (k.mono h.size)) (by kernel_rfl) (by kernel_rfl) ⟨h8d, ht8d⟩ (fun _ _ _ _ _ h => h) ?_
            simp only [List.take_succ_cons, List.take_zero, List.drop_succ_cons, List.drop_zero]
            refine wpMH_loadW (fun u => Below.refl _ _) (by rfl) _ _ rfl bp 0 rfl (x.map B8) _ (fun u h => h.2) Try.underlying26 rfl hix ?_
            simp only [Act.put, List.setIfInBounds_toArray, List.set_cons_zero, List.set_cons_succ]
            refine wpMH_loadW (fun u => Below.refl _ _) (by rfl) _ _ rfl b0 0 rfl (ya.map B8) _ (fun u h => h.1.r0) Try.underlying26 rfl hia ?_
            simp only [Act.put, List.setIfInBounds_toArray, List.set_cons_zero, List.set_cons_succ]
            refine wpMH_callW (by rfl) 33 _ _ rfl eg1 [.agg (x.map B8).toArray, .agg (ya.map B8).toArray] rfl (.agg (d1.map B8).toArray) (fun u h => (HN1.out u).mono fun e w' ⟨h1, h2⟩ => ⟨h1, ⟨h.1.stable h2, rangeAt_below' h.2 h2⟩, h2⟩) ?_
            simp only [Act.put, List.setIfInBounds_toArray, List.set_cons_zero, List.set_cons_succ]
            refine wpMH_loadW (fun u => Below.refl _ _) (by rfl) _ _ rfl bp 0 rfl (x.map B8) _ (fun u h => h.2) Try.underlying26 rfl hix ?_
            simp only [Act.put, List.setIfInBounds_toArray, List.set_cons_zero, List.set_cons_succ]
            refine wpMH_loadW (fun u => Below.refl _ _) (by rfl) _ _ rfl b1 0 rfl (yb.map B8) _ (fun u h => h.1.r1) Try.underlying26 rfl hib ?_
            simp only [Act.put, List.setIfInBounds_toArray, List.set_cons_zero, List.set_cons_succ]
            refine wpMH_callW (by rfl) 33 _ _ rfl eg1 [.agg (x.map B8).toArray, .agg (yb.map B8).toArray] rfl (.agg (d2.map B8).toArray) (fun u h => (HN2.out u).mono fun e w' ⟨h1, h2⟩ => ⟨h1, ⟨h.1.stable h2, rangeAt_below' h.2 h2⟩, h2⟩) ?_
            simp only [Act.put, List.setIfInBounds_toArray, List.set_cons_zero, List.set_cons_succ]
            refine wpMH_nil ?_
            intro u1 hS1 hM1
            have hth0 : u1.there b0 0 (d1.map B8).toArray.size := sz_there H32.out.1 hS1.1.t0
            have H9 := Lib.hid hS1.1
            clear hS1 hM1 h8d ht8d
            go_wp2_with (first
              | ((with_reducible show wpList _ _ _ (⟨_, Op.store 26 (.tmp 14) _, _, _, _, _⟩ :: _) _ _); refine wpList_store_row rfl _ _ _ rfl b0 0 (d1.map B8).toArray rfl rfl hth0 hi1' (b8_all d1) ?_; intro w10 hg10 hs10 ht10 hth10; rw [List.toList_toArray] at ht10; have H10 := Lib.hid (H9.out.put0 hg10 ht10 (there_sz H32.out.1 hth10) H32.out.1); have hth1 : w10.there b1 0 (d2.map B8).toArray.size := sz_there H32.out.2.1 H10.out.t1; clear hg10 hs10 ht10 hth10 hth0)
              | ((with_reducible show wpList _ _ _ (⟨_, Op.store 26 (.tmp 15) _, _, _, _, _⟩ :: _) _ _); refine wpList_store_row rfl _ _ _ rfl b1 0 (d2.map B8).toArray rfl rfl hth1 hi2' (b8_all d2) ?_; intro w11 hg11 hs11 ht11 hth11; rw [List.toList_toArray] at ht11; have H11 := Lib.hid (H10.out.put1 hg11 ht11 (there_sz H32.out.2.1 hth11) H32.out.2.1); clear hg11 hs11 ht11 hth11 hth1))
            refine NoPanic.normal ?_
            have HR : Hid (∃ y : Dg × Dg, y = foldE F (old, old) (T.take (j + 1)) (ps.take (j + 1)) ∧ ExI W b0 b1 y.1 y.2 w11) := Lib.hid ⟨(d1, d2), Hnext.out.symm, H11.out⟩
            go_wp2_with fail
            go_roundw
            case rel => exact ⟨j + 1, hjl, by go_num, HR⟩
            case measure => simp [intOf]; omega
        · obtain rfl : j = k := by omega
          have hyE : (ya, yb) = foldE F (old, old) T ps := by
            rw [List.take_of_length_le (by rw [HTl.out.1]; exact Nat.le_refl _), List.take_of_length_le (by rw [← HTl.out.2, HTl.out.1]; exact Nat.le_refl _)] at hy
            exact hy
          have hqv : q = (ya == old && yb == root) := by rw [Hq.out, ← hyE]
          have heq1 := fun w => run_eql_sum w ya old hwa HO.out
          have heq2 := fun w => run_eql_sum w yb root hwb HRt.out
          have Ho0 := Lib.hid (rangeAt_below' HM.out.fr.r0 hI.below)
          have Ho1 := Lib.hid (rangeAt_below' HM.out.fr.r1 hI.below)
          have HI := Lib.hid hI
          have Hqv := Lib.hid hqv
          have hbw' := hbw
          clear hqv hyE hy hI hbw hwa hwb
          cases hz : (ya == old) with
          | false =>
            rw [hz] at heq1
            have Hz := Lib.hid hz
            clear hz
            go_wp2_with (first
              | ((with_reducible show wpList _ _ _ (⟨_, Op.load 26 (.tmp 14), _, _, _, _⟩ :: _) _ _); refine wpList_load_mid rfl _ _ rfl b0 0 rfl (ya.map B8) _ HI.out.r0 Try.underlying26 rfl hia ?_; simp only [Act.put, List.setIfInBounds_toArray, List.set_cons_zero, List.set_cons_succ])
              | ((with_reducible show wpList _ _ _ (⟨_, Op.load 26 (.tmp 7), _, _, _, _⟩ :: _) _ _); refine wpList_load_mid rfl _ _ rfl w.heap.size 0 rfl (old.map B8) _ Ho0.out Try.underlying26 rfl hio ?_; simp only [Act.put, List.setIfInBounds_toArray, List.set_cons_zero, List.set_cons_succ]))
            go_ret
            exact ⟨by rw [Hqv.out, Hz.out]; rfl, hbw'⟩
          | true =>
            rw [hz] at heq1
            have Hz := Lib.hid hz
            clear hz
            go_wp2_with (first
              | ((with_reducible show wpList _ _ _ (⟨_, Op.load 26 (.tmp 14), _, _, _, _⟩ :: _) _ _); refine wpList_load_mid rfl _ _ rfl b0 0 rfl (ya.map B8) _ HI.out.r0 Try.underlying26 rfl hia ?_; simp only [Act.put, List.setIfInBounds_toArray, List.set_cons_zero, List.set_cons_succ])
              | ((with_reducible show wpList _ _ _ (⟨_, Op.load 26 (.tmp 7), _, _, _, _⟩ :: _) _ _); refine wpList_load_mid rfl _ _ rfl w.heap.size 0 rfl (old.map B8) _ Ho0.out Try.underlying26 rfl hio ?_; simp only [Act.put, List.setIfInBounds_toArray, List.set_cons_zero, List.set_cons_succ])
              | ((with_reducible show wpList _ _ _ (⟨_, Op.load 26 (.tmp 15), _, _, _, _⟩ :: _) _ _); refine wpList_load_midW rfl _ _ rfl b1 0 rfl (yb.map B8) _ HI.out.r1 Try.underlying26 rfl hib ?_; simp only [Act.put, List.setIfInBounds_toArray, List.set_cons_zero, List.set_cons_succ])
              | ((with_reducible show wpList _ _ _ (⟨_, Op.load 26 (.tmp 8), _, _, _, _⟩ :: _) _ _); refine wpList_load_midW rfl _ _ rfl (w.heap.size + 1) 0 rfl (root.map B8) _ Ho1.out Try.underlying26 rfl hir ?_; simp only [Act.put, List.setIfInBounds_toArray, List.set_cons_zero, List.set_cons_succ]))
            go_ret
            exact ⟨by rw [Hqv.out, Hz.out]; rfl, hbw'⟩
  | false =>
    have HX := two_boxesE w old root
    have d1 : decide ((n : Int) < 1) = false := decide_eq_false (by omega)
    have d2 : decide ((1048576 : Int) < (n : Int)) = false := decide_eq_false (by omega)
    have d3 : decide ((m : Int) < 1) = false := decide_eq_false (by omega)
    have d4 : decide ((n : Int) < (m : Int)) = false := decide_eq_false (by omega)
    have d4' : decide (n < m) = false := decide_eq_false (by omega)
    obtain ⟨T, hT⟩ : ∃ T, T = (stepsF m n).reverse := ⟨_, rfl⟩
    obtain ⟨t, htl⟩ : ∃ t, t = T.length := ⟨_, rfl⟩
    have htn : t ≤ n := by rw [htl, hT, List.length_reverse]; exact stepsF_len n m h0
    have hst := fun w => steps_any w m n h0 hm hn
    have hall : (stepsF m n).all id = false := hal
    have hneed : needsF m n true = t + 1 := by rw [needsF, hall, htl, hT, List.length_reverse]; rfl
    rw [← hT, hall] at hst
    have HST : Hid (∀ u, Calls Try.prog 94 #[.int .i64 (m : Int), .int .i64 (n : Int)] u fun e w' => ∃ A c, e = .returned (.tuple #[.slice A t c, .bool false]) ∧ w'.ownsRow u.heap.size 140 1 (.slice A t c) t (T.map Value.bool) ∧ Below u.heap.size u w') := Lib.hid fun u => by
      have h := hst u
      unfold StepsPost at h
      rw [← htl] at h
      exact h
    have Hs := Lib.hid (And.intro ho (And.intro hs (And.intro hT (And.intro htl hneed))))
    have hio := info_of old ho
    have hio' := info_of' old ho
    have HO := Lib.hid ho
    obtain ⟨k2, hk2⟩ : ∃ k2, k2 = k - 1 := ⟨_, rfl⟩
    obtain ⟨p, rest, hps⟩ : ∃ p rest, ps = p :: rest := by
      cases ps with
      | nil => have := hs.len; simp at this; omega
      | cons p rest => exact ⟨p, rest, rfl⟩
    have hp32 : p.length = 32 := hs.2.1 p (by rw [hps]; simp)
    obtain ⟨b, o, hB, hcells⟩ := hs.2.2 (by omega)
    subst hB
    have hrp0 : w.rangeAt b o (p.map B8) := by simpa using hcells 0 p (by rw [hps]; rfl)
    have Hrp : Hid (∀ u, Below w.heap.size w u → u.rangeAt b o (p.map B8)) := Lib.hid fun u hu => rangeAt_below' hrp0 hu
    obtain ⟨Bq, hBq⟩ : ∃ Bq, Bq = if c = 1 then (some ⟨b, o, none⟩ : Option Addr) else some ⟨b, o + 32, none⟩ := ⟨_, rfl⟩
    have hrs1 : RS w Bq k2 rest := by
      have h := hs.cut (k := 1) (cap := c) (by omega) hkc
      rw [hps, List.drop_one, List.tail_cons, ← hk2, Option.map_some, Addr.add_mid, Nat.one_mul, ← hBq] at h
      exact h
    have HBq := Lib.hid hBq
    have HPl := Lib.hid hp32
    have hip := info_of p hp32
    have hip' := info_of' p hp32
    have hk1 : k = k2 + 1 := by omega
    have ek : (k : Int) - 1 = (k2 : Int) := by omega
    have ec : (c : Int) - 1 = ((c - 1 : Nat) : Int) := by omega
    have dk0 : ((k : Int) == 0) = false := by simp; omega
    have g1 : (0 : Int) < (k : Int) := by omega
    have g2 : (1 : Int) ≤ (k : Int) := by omega
    have g3 : (k : Int) ≤ (c : Int) := by omega
    have HPs := Lib.hid hps
    have HNd0 := node_any HF
    have HNd := Lib.hid HNd0
    have HF32' := Lib.hid HF.len
    have hir := info_of root hrt
    have HRt := Lib.hid hrt
    have eg1 := enters_of Try.func33 (by kernel_rfl) rfl
    clear HNd0
    have hk00 : ¬ k = 0 := by omega
    have Hk2 := Lib.hid hk2
    have hkt : k2 = t := by omega
    subst hkt
    have hboth : bothF F m n true old ps = foldE F (p, p) T rest := by rw [bothF, startE, restE, hT, hps]; simp [hal]
    rw [hboth] at hq
    have Hq := Lib.hid hq
    have hkk : ((k2 : Int) != (k2 : Int)) = false := by simp
    have HRS : Hid (∀ u, Below w.heap.size w u → RS u Bq k2 rest) := Lib.hid fun u hu => hrs1.below hu
    have HTl : Hid (T.length = k2 ∧ T.length = rest.length) := Lib.hid ⟨htl.symm, by rw [hrs1.len, ← htl]⟩
    have HF32 := HPl
    have hif := hip
    have hif' := hip'
    clear hs hT htl hneed hst hall hal ho hq hboth hk Hs hrt hps hcells hrp0 hp32 hBq hrs1 hk1 hk2
    unfold SumV
    go_enter Try.func66, Try.ntmps66
    go_wp2_with fail
    refine (HST.out _).mono ?_
    rintro e w3 ⟨At, ct, rfl, hown, hb3⟩
    have hx0 := HX.out _ _ rfl rfl _ rfl
    have H3 := Lib.hid (And.intro (hx0.stable hb3) (ownsRow_base (base' := w.heap.size + 2) hown hx0.sz))
    clear hown hb3 hx0
    go_wp2_with (first
      | ((with_reducible show wpList _ _ _ (⟨_, Op.load 26 (.tmp 7), _, _, _, _⟩ :: _) _ _); refine wpList_load_mid rfl _ _ rfl w.heap.size 0 rfl (old.map B8) _ H3.out.1.r0 Try.underlying26 rfl hio ?_; simp only [Act.put, List.setIfInBounds_toArray, List.set_cons_zero, List.set_cons_succ])
      | ((with_reducible show wpList _ _ _ (⟨_, Op.store 26 (.tmp 13) _, _, _, _, _⟩ :: _) _ _); refine wpList_store_row rfl _ _ _ rfl w3.heap.size 0 (old.map B8).toArray rfl rfl (there_new' _ _ _ (by simp [HO.out])) hio' (b8_all old) ?_; intro w4 hg4 hs4 ht4 hth4; rw [List.toList_toArray] at ht4; have H4 := Lib.hid (ExM.mk4 H3.out hg4 ht4 (by simpa [HO.out] using hth4)); clear hg4 hs4 hth4 ht4))
    have HMd : Hid (ExM w old root w3.heap.size old (.slice At k2 ct) k2 T w4.drew) := Lib.hid (H4.out.stable (below_drewN (Below.refl _ _) 1))
    refine wp_region_noPanic ?_
    refine wp_region_moves 5 (fun u => ∃ f, ExM w old root w3.heap.size f (.slice At k2 ct) k2 T u) (fun u u' => u = u') (fun u => rfl) (fun h k => h.trans k) (by kernel_rfl) (by kernel_rfl) ⟨_, HMd.out⟩ (fun _ _ _ _ _ h => h) ?_
    simp only [List.take_succ_cons, List.take_zero, List.drop_succ_cons, List.drop_zero]
    refine wpMH_moveW (fun u => rfl) (by rfl) _ rfl _ rfl ?_
    simp only [Act.put, List.setIfInBounds_toArray, List.set_cons_zero, List.set_cons_succ]
    refine wpMH_pureW (fun u => rfl) (by rfl) (.pointer (some ⟨b, o, none⟩)) (fun u hu => by go_simp) ?_
    simp only [Act.put, List.setIfInBounds_toArray, List.set_cons_zero, List.set_cons_succ]
    refine wpMH_loadW (fun u => rfl) (by rfl) _ _ rfl b o rfl (p.map B8) _ (fun u ⟨_, hu⟩ => Hrp.out u hu.fr.below) Try.underlying26 rfl hip ?_
    simp only [Act.put, List.setIfInBounds_toArray, List.set_cons_zero, List.set_cons_succ]
    refine wpMH_moveW (fun u => rfl) (by rfl) _ rfl _ rfl ?_
    simp only [Act.put, List.setIfInBounds_toArray, List.set_cons_zero, List.set_cons_succ]
    refine wpMH_pureW (fun u => rfl) (by rfl) (.slice Bq k2 (c - 1)) (fun u hu => by go_simp; rw [HBq.out]; first | done | exact ⟨rfl, Hk2.out.symm⟩) ?_
    simp only [Act.put, List.setIfInBounds_toArray, List.set_cons_zero, List.set_cons_succ]
    refine wpMH_nil ?_
    refine wpMT_cons ?_
    rintro u1 - rfl
    have hth0 : w4.drew.there w3.heap.size 0 (p.map B8).toArray.size := by rw [show (p.map B8).toArray.size = 32 by simp [HPl.out]]; exact HMd.out.th
    go_wp2_with ((with_reducible show wpList _ _ _ (⟨_, Op.store 26 _ _, _, _, _, _⟩ :: _) _ _); refine wpList_store_row rfl _ _ _ rfl w3.heap.size 0 (p.map B8).toArray rfl rfl hth0 hip' (b8_all p) ?_; intro w5 hg5 hs5 ht5 hth5; rw [List.toList_toArray] at ht5; have H5 := Lib.hid (HMd.out.put hg5 ht5 (by simpa [HPl.out] using hth5)); clear hg5 hs5 ht5 hth5)
    refine ⟨⟨_, H5.out⟩, ?_⟩
    refine wpMT_cons ?_
    rintro u2 - rfl
    go_wp2_with fail
    refine ⟨⟨_, H5.out⟩, ?_⟩
    refine wpMT_nil ?_
    rintro u3 - rfl
    refine NoPanic.normal ?_
    go_wp2_with fail
    have HM := H5
    obtain ⟨W, hW⟩ : ∃ W, W = w5 := ⟨_, rfl⟩
    rw [← hW] at HM ⊢
    have HW : Hid (Below w.heap.size w W) := Lib.hid HM.out.fr.below
    clear hW H4 H5 HMd
    refine code_via (fun a0 a' w' => ∃ b0 b1, a' = (((a0.put (some 55) (.agg (p.map B8).toArray)).put (some 56) (.agg (p.map B8).toArray)).put (some 14) (.pointer (some ⟨b0, 0, none⟩))).put (some 15) (.pointer (some ⟨b1, 0, none⟩)) ∧ ExI W b0 b1 p p w') ?_ ?_
    · refine wp_region_noPanic ?_
      refine wp_region_movesA 2 (fun u => Below W.heap.size W u) (fun u u' => u = u') (fun u => rfl) (fun h k => h.trans k) (by kernel_rfl) (by kernel_rfl) (below_drewN (Below.refl _ _) 1) (fun _ _ _ _ _ h => h) ?_
      simp only [List.take_succ_cons, List.take_zero, List.drop_succ_cons, List.drop_zero]
      refine wpMH_loadW (fun u => rfl) (by rfl) _ _ rfl w3.heap.size 0 rfl (p.map B8) _ (fun u hu => rangeAt_below' HM.out.f0 hu) Try.underlying26 rfl hif ?_
      simp only [Act.put, List.setIfInBounds_toArray, List.set_cons_zero, List.set_cons_succ]
      refine wpMH_loadW (fun u => rfl) (by rfl) _ _ rfl w3.heap.size 0 rfl (p.map B8) _ (fun u hu => rangeAt_below' HM.out.f0 hu) Try.underlying26 rfl hif ?_
      simp only [Act.put, List.setIfInBounds_toArray, List.set_cons_zero, List.set_cons_succ]
      refine wpMH_nil ?_
      obtain ⟨Wd, hWd⟩ : ∃ Wd, Wd = W.drew := ⟨_, rfl⟩
      have hbd : Below W.heap.size W Wd := by rw [hWd]; exact below_drewN (Below.refl _ _) 1
      rw [← hWd]
      clear hWd
      have HTM := two_made Wd
      refine wpAnyM_two 2 3 (by kernel_rfl) rfl rfl ?_ ?_
      · rintro u1 - rfl
        go_wp2_with fail
        refine ⟨hbd.alloc hbd.size _, ?_⟩
        refine wpAnyM_one 3 (by kernel_rfl) rfl ?_
        rintro u2 - rfl
        go_wp2_with fail
        refine ⟨(hbd.alloc hbd.size _).alloc (by simp; have := hbd.size; omega) _, ?_⟩
        refine wpAnyM_one 4 (by kernel_rfl) rfl ?_
        simp only [List.getElem_toArray, List.getElem_cons_succ, List.getElem_cons_zero]
        rintro u3 - e3
        have hmm := HTM.out _ (by rfl) u3 e3.symm
        have hth3 : u3.there (Wd.heap.size) 0 (p.map B8).toArray.size := by rw [show (p.map B8).toArray.size = 32 by simp [HF32.out]]; exact hmm.2.1
        clear e3
        go_wp2_with ((with_reducible show wpList _ _ _ (⟨_, Op.store 26 _ _, _, _, _, _⟩ :: _) _ _); refine wpList_store_row rfl _ _ _ rfl (Wd.heap.size) 0 (p.map B8).toArray rfl rfl hth3 hif' (b8_all p) ?_; intro w5 hg5 hs5 ht5 hth5; rw [List.toList_toArray] at ht5; have H5 := Lib.hid (And.intro (hmm.1.grown hg5 hmm.1.size (by intro k hk; cases hk; omega)) (And.intro ht5 (And.intro hth5 (there_grownB hmm.2.2 (by decide) hg5 (by simp))))); clear hg5 hs5 ht5 hth5 hmm hth3)
        have h5 := hbd.trans (H5.out.1.mono hbd.size)
        refine ⟨h5, ?_⟩
        refine wpAnyM_one 5 (by kernel_rfl) rfl ?_
        simp only [List.getElem_toArray, List.getElem_cons_succ, List.getElem_cons_zero]
        rintro u4 - rfl
        have hth4 : w5.there (Wd.heap.size + 1) 0 (p.map B8).toArray.size := by rw [show (p.map B8).toArray.size = 32 by simp [HF32.out]]; exact H5.out.2.2.2
        go_wp2_with ((with_reducible show wpList _ _ _ (⟨_, Op.store 26 _ _, _, _, _, _⟩ :: _) _ _); refine wpList_store_row rfl _ _ _ rfl (Wd.heap.size + 1) 0 (p.map B8).toArray rfl rfl hth4 hif' (b8_all p) ?_; intro w6 hg6 hs6 ht6 hth6; rw [List.toList_toArray] at ht6; have H6 := Lib.hid (And.intro (h5.grown hg6 h5.size (by intro k hk; cases hk; have := hbd.size; omega)) (And.intro (range_grown H5.out.2.1 hg6 (by simp)) (And.intro (there_grownB (show w5.there (Wd.heap.size) 0 32 by simpa [HF32.out] using H5.out.2.2.1) (by decide) hg6 (by simp)) (And.intro ht6 (show w6.there (Wd.heap.size + 1) 0 32 by simpa [HF32.out] using hth6))))); clear hg6 hs6 ht6 hth6)
        refine ⟨H6.out.1, ?_⟩
        refine wpAnyM_nil (by kernel_rfl) ?_
        rintro u5 - rfl
        refine NoPanic.normal ⟨rfl, Wd.heap.size, Wd.heap.size + 1, rfl, H6.out.1, by have := hbd.size; omega, by have := hbd.size; omega, by omega, HF32.out, HF32.out, H6.out.2.1, H6.out.2.2.2.1, H6.out.2.2.1, H6.out.2.2.2.2⟩
      · rintro u1 - rfl
        go_wp2_with fail
        refine ⟨hbd.alloc hbd.size _, ?_⟩
        refine wpAnyM_one 2 (by kernel_rfl) rfl ?_
        rintro u2 - rfl
        go_wp2_with fail
        refine ⟨(hbd.alloc hbd.size _).alloc (by simp; have := hbd.size; omega) _, ?_⟩
        refine wpAnyM_one 4 (by kernel_rfl) rfl ?_
        simp only [List.getElem_toArray, List.getElem_cons_succ, List.getElem_cons_zero]
        rintro u3 - e3
        have hmm := HTM.out _ (by rfl) u3 e3.symm
        have hth3 : u3.there (Wd.heap.size + 1) 0 (p.map B8).toArray.size := by rw [show (p.map B8).toArray.size = 32 by simp [HF32.out]]; exact hmm.2.2
        clear e3
        go_wp2_with ((with_reducible show wpList _ _ _ (⟨_, Op.store 26 _ _, _, _, _, _⟩ :: _) _ _); refine wpList_store_row rfl _ _ _ rfl (Wd.heap.size + 1) 0 (p.map B8).toArray rfl rfl hth3 hif' (b8_all p) ?_; intro w5 hg5 hs5 ht5 hth5; rw [List.toList_toArray] at ht5; have H5 := Lib.hid (And.intro (hmm.1.grown hg5 hmm.1.size (by intro k hk; cases hk; omega)) (And.intro ht5 (And.intro hth5 (there_grownB hmm.2.1 (by decide) hg5 (by simp))))); clear hg5 hs5 ht5 hth5 hmm hth3)
        have h5 := hbd.trans (H5.out.1.mono hbd.size)
        refine ⟨h5, ?_⟩
        refine wpAnyM_one 5 (by kernel_rfl) rfl ?_
        simp only [List.getElem_toArray, List.getElem_cons_succ, List.getElem_cons_zero]
        rintro u4 - rfl
        have hth4 : w5.there (Wd.heap.size) 0 (p.map B8).toArray.size := by rw [show (p.map B8).toArray.size = 32 by simp [HF32.out]]; exact H5.out.2.2.2
        go_wp2_with ((with_reducible show wpList _ _ _ (⟨_, Op.store 26 _ _, _, _, _, _⟩ :: _) _ _); refine wpList_store_row rfl _ _ _ rfl (Wd.heap.size) 0 (p.map B8).toArray rfl rfl hth4 hif' (b8_all p) ?_; intro w6 hg6 hs6 ht6 hth6; rw [List.toList_toArray] at ht6; have H6 := Lib.hid (And.intro (h5.grown hg6 h5.size (by intro k hk; cases hk; have := hbd.size; omega)) (And.intro (range_grown H5.out.2.1 hg6 (by simp)) (And.intro (there_grownB (show w5.there (Wd.heap.size + 1) 0 32 by simpa [HF32.out] using H5.out.2.2.1) (by decide) hg6 (by simp)) (And.intro ht6 (show w6.there (Wd.heap.size) 0 32 by simpa [HF32.out] using hth6))))); clear hg6 hs6 ht6 hth6)
        refine ⟨H6.out.1, ?_⟩
        refine wpAnyM_nil (by kernel_rfl) ?_
        rintro u5 - rfl
        refine NoPanic.normal ⟨rfl, Wd.heap.size + 1, Wd.heap.size, rfl, H6.out.1, by have := hbd.size; omega, by have := hbd.size; omega, by omega, HF32.out, HF32.out, H6.out.2.1, H6.out.2.2.2.1, H6.out.2.2.1, H6.out.2.2.2.2⟩
    · rintro a' w' ⟨b0, b1, rfl, hI⟩
      simp only [Act.put, List.setIfInBounds_toArray, List.set_cons_zero, List.set_cons_succ]
      have h00 : Hid (∃ y : Dg × Dg, y = foldE F (p, p) (T.take 0) (rest.take 0) ∧ ExI W b0 b1 y.1 y.2 w') := Lib.hid ⟨(p, p), by simp [foldE], hI⟩
      clear hI
      go_wp2_with fail
      go_loopw [59] (fun iv wr => ∃ j : Nat, j ≤ k2 ∧ iv = .int .i64 (j : Int) ∧ Hid (∃ y : Dg × Dg, y = foldE F (p, p) (T.take j) (rest.take j) ∧ ExI W b0 b1 y.1 y.2 wr)) (fun iv _ => k2 - (intOf iv).toNat)
      case atStart => exact ⟨0, Nat.zero_le _, rfl, h00⟩
      case round =>
        obtain ⟨j, hj, rfl, hqq⟩ := hrel
        obtain ⟨⟨ya, yb⟩, hy, hI0⟩ := hqq.out
        have hI : ExI W b0 b1 ya yb wr := hI0
        have hbw : Below w.heap.size w wr := HW.out.trans (hI.below.mono HW.out.size)
        have hwa := hI.w32
        have hwb := hI.n32
        have hia := info_of ya hwa
        have hib := info_of yb hwb
        clear hI0 h00 hqq
        by_cases hjl : j < k2
        · obtain ⟨bx, ox, x, hBx, hx, hx32, hrx⟩ := (HRS.out wr hbw).at_ hjl
          obtain ⟨tb, htb⟩ : ∃ tb, T[j]? = some tb := ⟨_, List.getElem?_eq_getElem (by rw [HTl.out.1]; exact hjl)⟩
          obtain ⟨g, cap, hv, -, -⟩ := HM.out.own.form (by omega)
          injection hv with hv1 _ hv3
          have hcT : ∀ u, Below W.heap.size W u → u.cell? ⟨g, j, none⟩ = some (.bool tb) := fun u hu => by
            have := (ownsRow_below HM.out.own hu).cells (g := g) (by rw [hv1]; rfl) j (.bool tb) (by rw [List.getElem?_map, htb]; rfl)
            rw [Addr.add_mid, Nat.zero_add] at this
            exact this
          subst hv1
          subst hv3
          subst hBx
          have hnext := foldE_next HTl.out.2 htb hx hy
          have hix := info_of x hx32
          have hix' := info_of' x hx32
          have HI := Lib.hid hI
          have HcT := Lib.hid hcT
          have Hx32 := Lib.hid hx32
          obtain ⟨d1, hd1⟩ : ∃ d, d = nodeF F x ya := ⟨_, rfl⟩
          obtain ⟨d2, hd2⟩ : ∃ d, d = nodeF F x yb := ⟨_, rfl⟩
          obtain ⟨d3, hd3⟩ : ∃ d, d = nodeF F yb x := ⟨_, rfl⟩
          have hd132 : d1.length = 32 := by rw [hd1]; exact HF32'.out _
          have hd232 : d2.length = 32 := by rw [hd2]; exact HF32'.out _
          have hd332 : d3.length = 32 := by rw [hd3]; exact HF32'.out _
          have HN1 : Hid (∀ u : World, Calls Try.prog 33 #[.agg (x.map B8).toArray, .agg (ya.map B8).toArray] u fun e w' => e = .returned (.agg (d1.map B8).toArray) ∧ Below u.heap.size u w') := Lib.hid fun u => by rw [hd1]; exact HNd.out u x ya hx32 hwa
          have HN2 : Hid (∀ u : World, Calls Try.prog 33 #[.agg (x.map B8).toArray, .agg (yb.map B8).toArray] u fun e w' => e = .returned (.agg (d2.map B8).toArray) ∧ Below u.heap.size u w') := Lib.hid fun u => by rw [hd2]; exact HNd.out u x yb hx32 hwb
          have HN3 : Hid (∀ u : World, Calls Try.prog 33 #[.agg (yb.map B8).toArray, .agg (x.map B8).toArray] u fun e w' => e = .returned (.agg (d3.map B8).toArray) ∧ Below u.heap.size u w') := Lib.hid fun u => by rw [hd3]; exact HNd.out u yb x hwb hx32
          rw [← hd1, ← hd2, ← hd3] at hnext
          have Hnext := Lib.hid hnext
          have H32 := Lib.hid (And.intro hd132 (And.intro hd232 hd332))
          have hi1' := info_of' d1 hd132
          have hi2' := info_of' d2 hd232
          have hi3' := info_of' d3 hd332
          have hjk : (j : Int) < (k2 : Int) := by omega
          have hj0 : (0 : Int) ≤ (j : Int) := by omega
          clear hI hcT hx htb hnext hd1 hd2 hd3 hy hbw hwa hwb
          obtain ⟨wo, rfl⟩ : ∃ wo : World, wo = wr := ⟨_, rfl⟩
          cases tb with
          | true =>
            go_wp2_with (first
              | ((with_reducible show wpList _ _ _ (⟨_, Op.load 26 (.tmp 62), _, _, _, _⟩ :: _) _ _); refine wpList_load_mid rfl _ _ rfl bx (ox + j * 32) rfl (x.map B8) _ hrx Try.underlying26 rfl hix ?_; simp only [Act.put, List.setIfInBounds_toArray, List.set_cons_zero, List.set_cons_succ])
              | ((with_reducible show wpList _ _ _ (⟨_, Op.store 26 (.tmp 17) _, _, _, _, _⟩ :: _) _ _); refine wpList_store_row rfl _ _ _ rfl wo.heap.size 0 (x.map B8).toArray rfl rfl (there_new' _ _ _ (by simp [Hx32.out])) hix' (b8_all x) ?_; intro w8 hg8 hs8 ht8 hth8; rw [List.toList_toArray] at ht8; have hb8 : Below wo.heap.size wo w8 := ((Below.refl _ _).alloc (Nat.le_refl _) _).grown hg8 (by simp) (by intro k hk; cases hk; exact Nat.le_refl _); have H8 := Lib.hid (And.intro (HI.out.stable hb8) True.intro); have hcT := HcT.out _ H8.out.1.below; clear hg8 hs8 hth8 hb8)
              | ((with_reducible show wpList _ _ _ (⟨_, Op.load 26 (.tmp 15), _, _, _, _⟩ :: _) _ _); refine wpList_load_mid rfl _ _ rfl b1 0 rfl (yb.map B8) _ H8.out.1.r1 Try.underlying26 rfl hib ?_; simp only [Act.put, List.setIfInBounds_toArray, List.set_cons_zero, List.set_cons_succ])
              | ((with_reducible show wpList _ _ _ (⟨_, Op.load 26 (.tmp 17), _, _, _, _⟩ :: _) _ _); refine wpList_load_mid rfl _ _ rfl wo.heap.size 0 rfl (x.map B8) _ ht8 Try.underlying26 rfl hix ?_; simp only [Act.put, List.setIfInBounds_toArray, List.set_cons_zero, List.set_cons_succ]))
            refine (HN3.out _).mono ?_
            rintro e w9 ⟨rfl, hb9⟩
            have H9 := Lib.hid (H8.out.1.stable hb9)
            have hth : w9.there b1 0 (d3.map B8).toArray.size := sz_there H32.out.2.2 H9.out.t1
            clear hb9 ht8 hcT hrx
            go_wp2_with ((with_reducible show wpList _ _ _ (⟨_, Op.store 26 (.tmp 15) _, _, _, _, _⟩ :: _) _ _); refine wpList_store_row rfl _ _ _ rfl b1 0 (d3.map B8).toArray rfl rfl hth hi3' (b8_all d3) ?_; intro w10 hg10 hs10 ht10 hth10; rw [List.toList_toArray] at ht10; have H10 := Lib.hid (H9.out.put1 hg10 ht10 (there_sz H32.out.2.2 hth10) H32.out.2.2); clear hg10 hs10 ht10 hth10)
            have HR : Hid (∃ y : Dg × Dg, y = foldE F (p, p) (T.take (j + 1)) (rest.take (j + 1)) ∧ ExI W b0 b1 y.1 y.2 w10) := Lib.hid ⟨(ya, d3), Hnext.out.symm, H10.out⟩
            clear hth
            go_roundw
            case rel => exact ⟨j + 1, hjl, by go_num, HR⟩
            case measure => simp [intOf]; omega
          | false =>
            go_wp2_with (first
              | ((with_reducible show wpList _ _ _ (⟨_, Op.load 26 (.tmp 62), _, _, _, _⟩ :: _) _ _); refine wpList_load_mid rfl _ _ rfl bx (ox + j * 32) rfl (x.map B8) _ hrx Try.underlying26 rfl hix ?_; simp only [Act.put, List.setIfInBounds_toArray, List.set_cons_zero, List.set_cons_succ])
              | ((with_reducible show wpList _ _ _ (⟨_, Op.store 26 (.tmp 17) _, _, _, _, _⟩ :: _) _ _); refine wpList_store_row rfl _ _ _ rfl wo.heap.size 0 (x.map B8).toArray rfl rfl (there_new' _ _ _ (by simp [Hx32.out])) hix' (b8_all x) ?_; intro w8 hg8 hs8 ht8 hth8; rw [List.toList_toArray] at ht8; have hb8 : Below wo.heap.size wo w8 := ((Below.refl _ _).alloc (Nat.le_refl _) _).grown hg8 (by simp) (by intro k hk; cases hk; exact Nat.le_refl _); have H8 := Lib.hid (And.intro (HI.out.stable hb8) True.intro); have hcT := HcT.out _ H8.out.1.below; clear hg8 hs8 hth8 hb8))
            have h8d := H8.out.1.stable (below_drewN (Below.refl _ _) 1)
            have ht8d := rangeAt_below' ht8 (below_drewN (Below.refl _ w8) 1)
            clear hcT hrx ht8
            obtain ⟨bp, hbp⟩ : ∃ bp, bp = wo.heap.size := ⟨_, rfl⟩
            rw [← hbp] at ht8d ⊢
            clear hbp
            refine wp_region_noPanic ?_
            refine wp_region_movesT 6 (fun u => ExI W b0 b1 ya yb u ∧ u.rangeAt bp 0 (x.map B8)) (fun u u' => Below u.heap.size u u') (fun u => Below.refl _ _) (fun h k => h.trans (k.mono h.size)) (by kernel_rfl) (by kernel_rfl) ⟨h8d, ht8d⟩ (fun _ _ _ _ _ h => h) ?_
            simp only [List.take_succ_cons, List.take_zero, List.drop_succ_cons, List.drop_zero]
            refine wpMH_loadW (fun u => Below.refl _ _) (by rfl) _ _ rfl bp 0 rfl (x.map B8) _ (fun u h => h.2) Try.underlying26 rfl hix ?_
            simp only [Act.put, List.setIfInBounds_toArray, List.set_cons_zero, List.set_cons_succ]
            refine wpMH_loadW (fun u => Below.refl _ _) (by rfl) _ _ rfl b0 0 rfl (ya.map B8) _ (fun u h => h.1.r0) Try.underlying26 rfl hia ?_
            simp only [Act.put, List.setIfInBounds_toArray, List.set_cons_zero, List.set_cons_succ]
            refine wpMH_callW (by rfl) 33 _ _ rfl eg1 [.agg (x.map B8).toArray, .agg (ya.map B8).toArray] rfl (.agg (d1.map B8).toArray) (fun u h => (HN1.out u).mono fun e w' ⟨h1, h2⟩ => ⟨h1, ⟨h.1.stable h2, rangeAt_below' h.2 h2⟩, h2⟩) ?_
            simp only [Act.put, List.setIfInBounds_toArray, List.set_cons_zero, List.set_cons_succ]
            refine wpMH_loadW (fun u => Below.refl _ _) (by rfl) _ _ rfl bp 0 rfl (x.map B8) _ (fun u h => h.2) Try.underlying26 rfl hix ?_
            simp only [Act.put, List.setIfInBounds_toArray, List.set_cons_zero, List.set_cons_succ]
            refine wpMH_loadW (fun u => Below.refl _ _) (by rfl) _ _ rfl b1 0 rfl (yb.map B8) _ (fun u h => h.1.r1) Try.underlying26 rfl hib ?_
            simp only [Act.put, List.setIfInBounds_toArray, List.set_cons_zero, List.set_cons_succ]
            refine wpMH_callW (by rfl) 33 _ _ rfl eg1 [.agg (x.map B8).toArray, .agg (yb.map B8).toArray] rfl (.agg (d2.map B8).toArray) (fun u h => (HN2.out u).mono fun e w' ⟨h1, h2⟩ => ⟨h1, ⟨h.1.stable h2, rangeAt_below' h.2 h2⟩, h2⟩) ?_
            simp only [Act.put, List.setIfInBounds_toArray, List.set_cons_zero, List.set_cons_succ]
            refine wpMH_nil ?_
            intro u1 hS1 hM1
            have hth0 : u1.there b0 0 (d1.map B8).toArray.size := sz_there H32.out.1 hS1.1.t0
            have H9 := Lib.hid hS1.1
            clear hS1 hM1 h8d ht8d
            go_wp2_with (first
              | ((with_reducible show wpList _ _ _ (⟨_, Op.store 26 (.tmp 14) _, _, _, _, _⟩ :: _) _ _); refine wpList_store_row rfl _ _ _ rfl b0 0 (d1.map B8).toArray rfl rfl hth0 hi1' (b8_all d1) ?_; intro w10 hg10 hs10 ht10 hth10; rw [List.toList_toArray] at ht10; have H10 := Lib.hid (H9.out.put0 hg10 ht10 (there_sz H32.out.1 hth10) H32.out.1); have hth1 : w10.there b1 0 (d2.map B8).toArray.size := sz_there H32.out.2.1 H10.out.t1; clear hg10 hs10 ht10 hth10 hth0)
              | ((with_reducible show wpList _ _ _ (⟨_, Op.store 26 (.tmp 15) _, _, _, _, _⟩ :: _) _ _); refine wpList_store_row rfl _ _ _ rfl b1 0 (d2.map B8).toArray rfl rfl hth1 hi2' (b8_all d2) ?_; intro w11 hg11 hs11 ht11 hth11; rw [List.toList_toArray] at ht11; have H11 := Lib.hid (H10.out.put1 hg11 ht11 (there_sz H32.out.2.1 hth11) H32.out.2.1); clear hg11 hs11 ht11 hth11 hth1))
            refine NoPanic.normal ?_
            have HR : Hid (∃ y : Dg × Dg, y = foldE F (p, p) (T.take (j + 1)) (rest.take (j + 1)) ∧ ExI W b0 b1 y.1 y.2 w11) := Lib.hid ⟨(d1, d2), Hnext.out.symm, H11.out⟩
            go_wp2_with fail
            go_roundw
            case rel => exact ⟨j + 1, hjl, by go_num, HR⟩
            case measure => simp [intOf]; omega
        · obtain rfl : j = k2 := by omega
          have hyE : (ya, yb) = foldE F (p, p) T rest := by
            rw [List.take_of_length_le (by rw [HTl.out.1]; exact Nat.le_refl _), List.take_of_length_le (by rw [← HTl.out.2, HTl.out.1]; exact Nat.le_refl _)] at hy
            exact hy
          have hqv : q = (ya == old && yb == root) := by rw [Hq.out, ← hyE]
          have heq1 := fun w => run_eql_sum w ya old hwa HO.out
          have heq2 := fun w => run_eql_sum w yb root hwb HRt.out
          have Ho0 := Lib.hid (rangeAt_below' HM.out.fr.r0 hI.below)
          have Ho1 := Lib.hid (rangeAt_below' HM.out.fr.r1 hI.below)
          have HI := Lib.hid hI
          have Hqv := Lib.hid hqv
          have hbw' := hbw
          clear hqv hyE hy hI hbw hwa hwb
          cases hz : (ya == old) with
          | false =>
            rw [hz] at heq1
            have Hz := Lib.hid hz
            clear hz
            go_wp2_with (first
              | ((with_reducible show wpList _ _ _ (⟨_, Op.load 26 (.tmp 14), _, _, _, _⟩ :: _) _ _); refine wpList_load_mid rfl _ _ rfl b0 0 rfl (ya.map B8) _ HI.out.r0 Try.underlying26 rfl hia ?_; simp only [Act.put, List.setIfInBounds_toArray, List.set_cons_zero, List.set_cons_succ])
              | ((with_reducible show wpList _ _ _ (⟨_, Op.load 26 (.tmp 7), _, _, _, _⟩ :: _) _ _); refine wpList_load_mid rfl _ _ rfl w.heap.size 0 rfl (old.map B8) _ Ho0.out Try.underlying26 rfl hio ?_; simp only [Act.put, List.setIfInBounds_toArray, List.set_cons_zero, List.set_cons_succ]))
            go_ret
            exact ⟨by rw [Hqv.out, Hz.out]; rfl, hbw'⟩
          | true =>
            rw [hz] at heq1
            have Hz := Lib.hid hz
            clear hz
            go_wp2_with (first
              | ((with_reducible show wpList _ _ _ (⟨_, Op.load 26 (.tmp 14), _, _, _, _⟩ :: _) _ _); refine wpList_load_mid rfl _ _ rfl b0 0 rfl (ya.map B8) _ HI.out.r0 Try.underlying26 rfl hia ?_; simp only [Act.put, List.setIfInBounds_toArray, List.set_cons_zero, List.set_cons_succ])
              | ((with_reducible show wpList _ _ _ (⟨_, Op.load 26 (.tmp 7), _, _, _, _⟩ :: _) _ _); refine wpList_load_mid rfl _ _ rfl w.heap.size 0 rfl (old.map B8) _ Ho0.out Try.underlying26 rfl hio ?_; simp only [Act.put, List.setIfInBounds_toArray, List.set_cons_zero, List.set_cons_succ])
              | ((with_reducible show wpList _ _ _ (⟨_, Op.load 26 (.tmp 15), _, _, _, _⟩ :: _) _ _); refine wpList_load_midW rfl _ _ rfl b1 0 rfl (yb.map B8) _ HI.out.r1 Try.underlying26 rfl hib ?_; simp only [Act.put, List.setIfInBounds_toArray, List.set_cons_zero, List.set_cons_succ])
              | ((with_reducible show wpList _ _ _ (⟨_, Op.load 26 (.tmp 8), _, _, _, _⟩ :: _) _ _); refine wpList_load_midW rfl _ _ rfl (w.heap.size + 1) 0 rfl (root.map B8) _ Ho1.out Try.underlying26 rfl hir ?_; simp only [Act.put, List.setIfInBounds_toArray, List.set_cons_zero, List.set_cons_succ]))
            go_ret
            exact ⟨by rw [Hqv.out, Hz.out]; rfl, hbw'⟩
end
end Go.Proofs.Ytkcmacglomdfcaa
