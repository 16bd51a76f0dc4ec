/-
  THE WALK of the law RunsBoth.
-/
import Derived.Test.YtkfpnilbjjkhgaaRnZ
namespace Go.Proofs.Ytkfpnilbjjkhgaa
open Go.RowKit Go.Lib Go.Sort
set_option maxRecDepth 100000 in
set_option maxHeartbeats 8000000 in
theorem runsBoth_law (w : World) (v0 : Value) (la : List Po) (h0 : SP w v0 la) (v1 : Value) (lb : List Po) (h1 : SP w v1 lb) :
    Calls Try.prog 7 #[v0, v1] w fun e w' => e = .returned (.bool true) ∧ Below w.heap.size w w' := by
  obtain ⟨A, n, c, rfl, hnc, hcm, hr⟩ := h0
  obtain ⟨B, m, d, rfl, hmd, hdm, hs⟩ := h1
  have HA := Lib.hid hr
  have HB := Lib.hid hs
  clear hr hs
  go_enter Try.func7, Try.ntmps7
  go_wp2_with fail
  refine (alive19_any w).mono ?_
  rintro e w1 ⟨rfl, hb1⟩
  have H1 := Lib.hid hb1
  clear hb1
  go_wp2_with fail
  refine (long_any w1 A n c la (HA.out.below H1.out)).mono ?_
  rintro e w2 ⟨bl, rfl, hbl, hb⟩
  have H2 := Lib.hid (H1.out.trans (hb.mono H1.out.size))
  have Hbl := Lib.hid hbl
  clear hb hbl H1
  cases bl with
  | true =>
    go_wp2_with fail
    go_ret
    exact ⟨rfl, H2.out⟩
  | false =>
    obtain ⟨h61, -⟩ := Hbl.out rfl
    rw [HA.out.1] at h61
    clear Hbl
    go_wp2_with fail
    refine (long_any w2 B m d lb (HB.out.below H2.out)).mono ?_
    rintro e w3 ⟨bl, rfl, hbl, hb⟩
    have H3 := Lib.hid (H2.out.trans (hb.mono H2.out.size))
    have Hbl := Lib.hid hbl
    clear hb hbl H2
    cases bl with
    | true =>
      go_wp2_with fail
      go_ret
      exact ⟨rfl, H3.out⟩
    | false =>
      obtain ⟨h62, -⟩ := Hbl.out rfl
      rw [HB.out.1] at h62
      clear Hbl
      go_wp2_with fail
      obtain ⟨L, hL⟩ : ∃ L, L = newF (la ++ lb) := ⟨_, rfl⟩
      have hasc := (newF_all (la ++ lb)).1
      have hLn := newF_length (la ++ lb)
      rw [List.length_append, HA.out.1, HB.out.1] at hLn
      rw [← hL] at hasc hLn
      have HL := Lib.hid hL
      have Hasc := Lib.hid hasc
      obtain ⟨N, hN⟩ : ∃ N, N = L.length := ⟨_, rfl⟩
      rw [← hN] at hLn
      have HN := Lib.hid hN
      clear hL hasc hN
      refine (posts_any w3 A n c la (HA.out.below H3.out) (by omega)).mono ?_
      rintro e w4 ⟨Ap, cp, rfl, hown, hb⟩
      rw [HA.out.1] at hown ⊢
      have hpc : n ≤ cp := by
        obtain ⟨A9, c9, e9, h9, -, -⟩ := own_formK hown
        cases e9
        exact h9
      have H4 := Lib.hid (And.intro (H3.out.trans (hb.mono H3.out.size)) (RP.of_own hown))
      clear hown hb H3
      go_wp2_with fail
      refine (new_run w4 Ap n cp la H4.out.2 (by omega) hpc).mono ?_
      intro e w5 hp5
      obtain ⟨A1, c1, rfl, hr5, hc5, hm5, hb5⟩ := hp5.rp
      have hl1 := newF_length la
      rw [HA.out.1] at hl1
      obtain ⟨n1, hn1⟩ : ∃ n1, n1 = (newF la).length := ⟨_, rfl⟩
      rw [← hn1] at hr5 hc5 hl1 ⊢
      have H5 := Lib.hid (And.intro (H4.out.1.trans (hb5.mono H4.out.1.size)) hr5)
      have HC1 := Lib.hid (And.intro hc5 hm5)
      have Hn1 := Lib.hid hn1
      clear hp5 hr5 hc5 hm5 hb5 H4 hpc hn1
      go_wp2_with fail
      refine (posts_any w5 B m d lb (HB.out.below H5.out.1) (by omega)).mono ?_
      rintro e w6 ⟨Ap, cp, rfl, hown, hb⟩
      rw [HB.out.1] at hown ⊢
      have hpc : m ≤ cp := by
        obtain ⟨A9, c9, e9, h9, -, -⟩ := own_formK hown
        cases e9
        exact h9
      have H6 := Lib.hid (And.intro (H5.out.1.trans (hb.mono H5.out.1.size)) (And.intro (H5.out.2.below hb) (RP.of_own hown)))
      clear hown hb H5
      go_wp2_with fail
      refine (new_run w6 Ap m cp lb H6.out.2.2 (by omega) hpc).mono ?_
      intro e w7 hp7
      obtain ⟨A2, c2, rfl, hr7, hc7, hm7, hb7⟩ := hp7.rp
      have hl2 := newF_length lb
      rw [HB.out.1] at hl2
      obtain ⟨n2, hn2⟩ : ∃ n2, n2 = (newF lb).length := ⟨_, rfl⟩
      rw [← hn2] at hr7 hc7 hl2 ⊢
      have hra := runs_two (H6.out.2.1.below hb7) hr7 HC1.out.1 hc7 HC1.out.2 hm7
      have hba : Below w7.heap.size w7 (w7.alloc (.cells #[.slice A1 n1 c1, .slice A2 n2 c2] 28)) := (Below.refl _ _).alloc (Nat.le_refl _) _
      obtain ⟨w8, hw8⟩ : ∃ w8, w8 = w7.alloc (.cells #[.slice A1 n1 c1, .slice A2 n2 c2] 28) := ⟨_, rfl⟩
      rw [← hw8] at hra hba
      have hmg := merge_any w8 _ 2 2 _ _ hra (asc_two la lb) (by have h7 := Hn1.out; simp; omega) (by omega)
      rw [newF_two, ← HL.out] at hmg
      have HMG := Lib.hid hmg
      have H8 := Lib.hid ((H6.out.1.trans (hb7.mono H6.out.1.size)).trans (hba.mono (H6.out.1.trans (hb7.mono H6.out.1.size)).size))
      have Hw8 := Lib.hid hw8
      clear hp7 hr7 hc7 hm7 hb7 hra hba hmg hw8 H6 HC1 hpc hn2 Hn1
      go_wp2_with fail
      rw [← Hw8.out]
      refine HMG.out.mono ?_
      intro e w9 hp9
      obtain ⟨A5, c5, rfl, hb9, hbx9⟩ := hp9.box
      obtain ⟨w10, hw10⟩ : ∃ w10, w10 = w9.alloc (.cells #[.slice A5 L.length c5] 28) := ⟨_, rfl⟩
      obtain ⟨b5, hb5⟩ : ∃ b5, b5 = w9.heap.size := ⟨_, rfl⟩
      have hba : Below w9.heap.size w9 (w9.alloc (.cells #[.slice A5 L.length c5] 28)) := (Below.refl _ _).alloc (Nat.le_refl _) _
      rw [← hw10, ← hb5] at hbx9
      rw [← hw10] at hba
      rw [← HN.out] at hbx9 hw10 ⊢
      have u9 : Below w.heap.size w w9 := H8.out.trans (hb9.mono H8.out.size)
      have H10 := Lib.hid (And.intro (u9.trans (hba.mono u9.size)) hbx9)
      have Hw10 := Lib.hid hw10
      have Hb5 := Lib.hid hb5
      clear hp9 hb9 hbx9 hw10 hb5 hba u9 H8 HMG Hw8
      go_wp2_with fail
      rw [← Hw10.out, ← Hb5.out]
      clear Hw10 Hb5
      refine (posts_any w10 A n c la (HA.out.below H10.out.1) (by omega)).mono ?_
      rintro e w11 ⟨Ap, cp, rfl, hown, hb⟩
      rw [HA.out.1] at hown ⊢
      have H11 := Lib.hid (And.intro hown hb)
      clear hown hb
      go_wp2_with fail
      refine (posts_any w11 B m d lb (HB.out.below (H10.out.1.trans (H11.out.2.mono H10.out.1.size))) (by omega)).mono ?_
      rintro e w12 ⟨Ap, cp, rfl, hown, hb⟩
      rw [HB.out.1] at hown ⊢
      have H12 := Lib.hid (And.intro (RP.of_own hown) (And.intro (ownsRow_below H11.out.1 hb) (H11.out.2.trans (hb.mono H11.out.2.size))))
      clear hown hb H11
      have hlen : (flatP lb).length = m * 2 := by rw [flatP_len, HB.out.1]
      go_wp2_with (at_builtin; refine wpList_append_row rfl (.tmp 26) (.tmp 28) 25 rfl w10 H12.out.2.2 Try.underlying25 info_post3 rfl (by decide) _ n _ rfl H12.out.2.1 _ m _ (flatP lb) rfl H12.out.1.rc hlen (flatP_one _) (by unfold maxLen; omega) (by omega) ?_; intro v13 w13 hown hb13)
      rw [← flatP_app] at hown
      obtain ⟨A13, c13, rfl, hc13, -, -⟩ := own_formK hown
      have hnr := new_run w13 A13 (n + m) c13 (la ++ lb) (RP.of_own hown) (by omega) hc13
      rw [← HL.out] at hnr
      have H13 := Lib.hid (And.intro (H10.out.1.trans (hb13.mono H10.out.1.size)) (H10.out.2.below hb13))
      have HNR := Lib.hid hnr
      clear hown hb13 hc13 hnr H10 H12 hlen
      refine HNR.out.mono ?_
      intro e w14 hp14
      obtain ⟨A6, c6, rfl, hb14, hbx14⟩ := hp14.box
      obtain ⟨V, hV⟩ : ∃ V, V = w14.alloc (.cells #[.slice A6 L.length c6] 28) := ⟨_, rfl⟩
      obtain ⟨b6, hb6⟩ : ∃ b6, b6 = w14.heap.size := ⟨_, rfl⟩
      have hba : Below w14.heap.size w14 (w14.alloc (.cells #[.slice A6 L.length c6] 28)) := (Below.refl _ _).alloc (Nat.le_refl _) _
      rw [← hV, ← hb6] at hbx14
      rw [← hV] at hba
      rw [← HN.out] at hbx14 hV ⊢
      have u14 := H13.out.1.trans (hb14.mono H13.out.1.size)
      have HVw := Lib.hid (u14.trans (hba.mono u14.size))
      have R1 := Lib.hid ((H13.out.2.below hb14).below hba)
      have R2 := Lib.hid hbx14
      have HV := Lib.hid hV
      have Hb6 := Lib.hid hb6
      clear hp14 hb14 hbx14 hV hb6 hba u14 H13 HNR
      go_wp2_with fail
      rw [← HV.out, ← Hb6.out]
      clear HV Hb6
      have hN6 : N ≤ 1000000 := by omega
      have g1 := R1.out.1
      have g2 := R2.out.1
      refine wp_region_quietB (by kernel_rfl) (by kernel_rfl) (fun hne => ?_)
      refine wpQ_loadB rfl _ _ rfl b5 0 rfl [.slice A5 N c5] _ g1 Try.underlying28 rfl (info_run _) ?_
      simp only [Act.put, List.setIfInBounds_toArray, List.set_cons_zero, List.set_cons_succ]
      refine wpQ_callB rfl 16 #[.agg #[.slice A5 N c5]] (fun u => by go_simp) (.int .i64 N) (fun u _ => (runLen_any u A5 N c5).mono fun e w' ⟨h1, h2⟩ => ⟨h1, by rw [h2]; exact (Below.refl _ _).alloc (Nat.le_refl _) _⟩) ?_
      simp only [Act.put, List.setIfInBounds_toArray, List.set_cons_zero, List.set_cons_succ]
      refine wpQ_loadB rfl _ _ rfl b6 0 rfl [.slice A6 N c6] _ g2 Try.underlying28 rfl (info_run _) ?_
      simp only [Act.put, List.setIfInBounds_toArray, List.set_cons_zero, List.set_cons_succ]
      refine wpQ_callB rfl 16 #[.agg #[.slice A6 N c6]] (fun u => by go_simp) (.int .i64 N) (fun u _ => (runLen_any u A6 N c6).mono fun e w' ⟨h1, h2⟩ => ⟨h1, by rw [h2]; exact (Below.refl _ _).alloc (Nat.le_refl _) _⟩) ?_
      simp only [Act.put, List.setIfInBounds_toArray, List.set_cons_zero, List.set_cons_succ]
      repeat (go_big_quiet_step (fail))
      refine wpQuiet_nil ?_
      intro V0 hV0
      have HVn := Lib.hid (HVw.out.trans (hV0.mono HVw.out.size))
      have R1n := Lib.hid (R1.out.below hV0)
      have R2n := Lib.hid (R2.out.below hV0)
      clear g1 g2 hne R1 R2 HVw hV0
      obtain ⟨HVw, R1, R2⟩ : Hid (Below w.heap.size w V0) ∧ Hid (RunBox V0 b5 A5 N c5 L) ∧ Hid (RunBox V0 b6 A6 N c6 L) := ⟨HVn, R1n, R2n⟩
      clear HVn R1n R2n
      obtain ⟨V, rfl⟩ : ∃ V, V = V0 := ⟨V0, rfl⟩
      clear h61 h62 hl1 hl2 hLn hnc hcm hmd hdm
      have HVV : Hid (Below V.heap.size V V) := Lib.hid (Below.refl _ _)
      have hkl := keysF_le L
      rw [← HN.out] at hkl
      have gk := rangeAt_blkcell (R2).out.1
      go_wp2_with fail
      refine (keys_any V A6 N c6 L (R2).out.2.1 (by omega)).mono ?_
      rintro e V1 ⟨Ay, cy, rfl, hown1, hb1⟩
      obtain ⟨ky, hky⟩ : ∃ ky, ky = (keysF L).length := ⟨_, rfl⟩
      rw [← hky] at hown1 hkl ⊢
      have HV1 := Lib.hid (And.intro hb1 (own_rv hown1))
      have Hky := Lib.hid hky
      clear hown1 hb1 hky gk
      go_wp2_with fail
      go_loopw [39] (fun s wr => ∃ k : Nat, k ≤ ky ∧ s = .int .i64 (k : Int) ∧ Hid (Below V1.heap.size V1 wr)) (fun s _ => ky - (intOf s).toNat)
      case atStart => exact ⟨0, Nat.zero_le _, rfl, Lib.hid (Below.refl _ _)⟩
      case round =>
        obtain ⟨k, hk, rfl, HK⟩ := hrel
        obtain ⟨W, rfl⟩ : ∃ W, W = wr := ⟨wr, rfl⟩
        have HVW := Lib.hid (HV1.out.1.trans (HK.out.mono HV1.out.1.size))
        by_cases hlt : k < ky
        · obtain ⟨by1, oy, uy, rfl, ey, cy1⟩ := (HV1.out.2.below HK.out).at_ hlt
          rw [List.getElem?_map] at ey
          obtain ⟨key, hkey, rfl⟩ := Option.map_eq_some_iff.1 ey
          unfold Str at cy1
          clear ey hkey
          go_wp2_with fail
          refine wp_region_noPanic ?_
          refine wp_region_movesJ [0, 1, 3, 4] (fun u => Below W.heap.size W u) (fun u u' => Below u.heap.size u u') (fun u => Below.refl _ _) (fun h k => h.trans (k.mono h.size)) (by kernel_rfl) (by kernel_rfl) (by kernel_rfl) (below_drewN (Below.refl _ _) 1) (fun _ _ _ _ _ h => h) ?_
          simp only [List.filterMap, List.getElem?_cons_zero, List.getElem?_cons_succ]
          refine wpMH_loadW (fun u => Below.refl _ _) (by rfl) _ _ rfl b5 0 rfl [.slice A5 N c5] _ (fun u hu => rangeAt_below' (R1).out.1 (Below.trans HVW.out (hu.mono HVW.out.size))) Try.underlying28 rfl (info_run _) ?_
          simp only [Act.put, List.setIfInBounds_toArray, List.set_cons_zero, List.set_cons_succ]
          refine wpMH_moveW (fun u => Below.refl _ _) (by rfl) _ rfl _ rfl ?_
          simp only [Act.put, List.setIfInBounds_toArray, List.set_cons_zero, List.set_cons_succ]
          refine wpMH_loadW (fun u => Below.refl _ _) (by rfl) _ _ rfl b6 0 rfl [.slice A6 N c6] _ (fun u hu => rangeAt_below' (R2).out.1 (Below.trans HVW.out (hu.mono HVW.out.size))) Try.underlying28 rfl (info_run _) ?_
          simp only [Act.put, List.setIfInBounds_toArray, List.set_cons_zero, List.set_cons_succ]
          refine wpMH_moveW (fun u => Below.refl _ _) (by rfl) _ rfl _ rfl ?_
          simp only [Act.put, List.setIfInBounds_toArray, List.set_cons_zero, List.set_cons_succ]
          refine wpMH_nil ?_
          clear cy1
          refine wpAnyM_one 2 (by kernel_rfl) rfl ?_
          simp only [List.getElem_toArray, List.getElem_cons_succ, List.getElem_cons_zero]
          intro u1 hS1 hM1
          have hof := of_any u1 A5 N c5 L (by omega) R1.out.2.2.1 R1.out.2.2.2 Hasc.out key (R1.out.2.1.below (HVW.out.trans (hS1.mono HVW.out.size)))
          have HOF := Lib.hid hof
          have HS1 := Lib.hid hS1
          clear hof hS1 hM1
          go_wp2_with fail
          refine HOF.out.mono ?_
          rintro e u2 ⟨Ao, co, rfl, hown2, hb2⟩
          obtain ⟨U, hU⟩ : ∃ U, U = placesF L key (-9223372036854775808) := ⟨_, rfl⟩
          rw [← hU] at hown2 ⊢
          have hUn : U.length ≤ 1000000 := by
            rw [hU]
            have h5 := fromF_le L key (-9223372036854775808)
            rw [fromF_eq Hasc.out key (-9223372036854775808), ← HN.out] at h5
            have h6 : (placesF L key (-9223372036854775808)).length ≤ N := h5
            omega
          have H2 := Lib.hid (And.intro (Below.trans HS1.out (hb2.mono HS1.out.size)) (own_rv hown2))
          have HU := Lib.hid hU
          clear hown2 hb2 HOF HS1 hU
          go_wp2_with fail
          refine ⟨H2.out.1, ?_⟩
          refine wpAnyM_one 5 (by kernel_rfl) rfl ?_
          simp only [List.getElem_toArray, List.getElem_cons_succ, List.getElem_cons_zero]
          intro u3 hS3 hM3
          have H3 := Lib.hid (And.intro hS3 (H2.out.2.below hM3))
          have hof := of_any u3 A6 N c6 L (by omega) R2.out.2.2.1 R2.out.2.2.2 Hasc.out key (R2.out.2.1.below (HVW.out.trans (hS3.mono HVW.out.size)))
          rw [← HU.out] at hof
          have HOF := Lib.hid hof
          clear hof hS3 hM3 H2
          go_wp2_with fail
          refine HOF.out.mono ?_
          rintro e u4 ⟨Ap, cp, rfl, hown4, hb4⟩
          have H4 := Lib.hid (And.intro (Below.trans H3.out.1 (hb4.mono H3.out.1.size)) (And.intro (H3.out.2.below hb4) (own_rv hown4)))
          clear hown4 hb4 HOF H3
          go_wp2_with fail
          refine ⟨H4.out.1, ?_⟩
          refine wpAnyM_one 6 (by kernel_rfl) rfl ?_
          simp only [List.getElem_toArray, List.getElem_cons_succ, List.getElem_cons_zero]
          intro u5 hS5 hM5
          have hint := ints_any u5 Ao Ap U.length U.length co cp U U (H4.out.2.1.below hM5) (H4.out.2.2.below hM5) hUn hUn
          rw [decide_eq_true rfl] at hint
          have HI := Lib.hid hint
          have HS5 := Lib.hid hS5
          clear hint hS5 hM5 H4
          go_wp2_with fail
          refine HI.out.mono ?_
          rintro e u6 ⟨rfl, q, hq⟩
          have HS6 : Hid (Below W.heap.size W u6) := Lib.hid (by rw [hq]; exact below_drewN HS5.out q)
          clear hq HI HS5
          go_wp2_with fail
          refine ⟨HS6.out, ?_⟩
          refine wpAnyM_one 7 (by kernel_rfl) rfl ?_
          simp only [List.getElem_toArray, List.getElem_cons_succ, List.getElem_cons_zero]
          intro u7 hS7 hM7
          have HS7 := Lib.hid hS7
          clear hS7 hM7 HS6
          go_wp2_with fail
          refine ⟨HS7.out, ?_⟩
          refine wpAnyM_nil (by kernel_rfl) ?_
          intro u8 hS8 hM8
          refine NoPanic.normal ?_
          have HN8 := Lib.hid (HK.out.trans (hS8.mono HK.out.size))
          clear hS8 hM8 HS7
          go_wp2_with fail
          go_roundw
          case rel => exact ⟨k + 1, hlt, by go_num, HN8⟩
          case measure => simp [intOf]; omega
        · obtain rfl : k = ky := by omega
          go_wp2_with fail
          refine wp_region_noPanic ?_
          refine wp_region_movesJ [0, 2] (fun u => Below W.heap.size W u) (fun u u' => Below u.heap.size u u') (fun u => Below.refl _ _) (fun h k => h.trans (k.mono h.size)) (by kernel_rfl) (by kernel_rfl) (by kernel_rfl) (below_drewN (Below.refl _ _) 1) (fun _ _ _ _ _ h => h) ?_
          simp only [List.filterMap, List.getElem?_cons_zero, List.getElem?_cons_succ]
          refine wpMH_loadW (fun u => Below.refl _ _) (by rfl) _ _ rfl b5 0 rfl [.slice A5 N c5] _ (fun u hu => rangeAt_below' (R1).out.1 (Below.trans HVW.out (hu.mono HVW.out.size))) Try.underlying28 rfl (info_run _) ?_
          simp only [Act.put, List.setIfInBounds_toArray, List.set_cons_zero, List.set_cons_succ]
          refine wpMH_loadW (fun u => Below.refl _ _) (by rfl) _ _ rfl b6 0 rfl [.slice A6 N c6] _ (fun u hu => rangeAt_below' (R2).out.1 (Below.trans HVW.out (hu.mono HVW.out.size))) Try.underlying28 rfl (info_run _) ?_
          simp only [Act.put, List.setIfInBounds_toArray, List.set_cons_zero, List.set_cons_succ]
          refine wpMH_nil ?_
          refine wpAnyM_one 1 (by kernel_rfl) rfl ?_
          simp only [List.getElem_toArray, List.getElem_cons_succ, List.getElem_cons_zero]
          intro u1 hS1 hM1
          have hke := keys_any u1 A5 N c5 L (R1.out.2.1.below (HVW.out.trans (hS1.mono HVW.out.size))) (by omega)
          have HKE := Lib.hid hke
          have HS1 := Lib.hid hS1
          clear hke hS1 hM1
          go_wp2_with fail
          refine HKE.out.mono ?_
          rintro e u2 ⟨Ao, co, rfl, hown2, hb2⟩
          rw [← Hky.out] at hown2 ⊢
          have H2 := Lib.hid (And.intro (Below.trans HS1.out (hb2.mono HS1.out.size)) (own_rv hown2))
          clear hown2 hb2 HKE HS1
          go_wp2_with fail
          refine ⟨H2.out.1, ?_⟩
          refine wpAnyM_one 3 (by kernel_rfl) rfl ?_
          simp only [List.getElem_toArray, List.getElem_cons_succ, List.getElem_cons_zero]
          intro u3 hS3 hM3
          have H3 := Lib.hid (And.intro hS3 (H2.out.2.below hM3))
          have hke := keys_any u3 A6 N c6 L (R2.out.2.1.below (HVW.out.trans (hS3.mono HVW.out.size))) (by omega)
          have HKE := Lib.hid hke
          clear hke hS3 hM3 H2
          go_wp2_with fail
          refine HKE.out.mono ?_
          rintro e u4 ⟨Ap, cp, rfl, hown4, hb4⟩
          rw [← Hky.out] at hown4 ⊢
          have H4 := Lib.hid (And.intro (Below.trans H3.out.1 (hb4.mono H3.out.1.size)) (And.intro (H3.out.2.below hb4) (own_rv hown4)))
          clear hown4 hb4 HKE H3
          go_wp2_with fail
          refine ⟨H4.out.1, ?_⟩
          refine wpAnyM_one 4 (by kernel_rfl) rfl ?_
          simp only [List.getElem_toArray, List.getElem_cons_succ, List.getElem_cons_zero]
          intro u5 hS5 hM5
          have htx := texts_any u5 Ao Ap k k co cp (keysF L) (keysF L) (H4.out.2.1.below hM5) (H4.out.2.2.below hM5) (by omega) (by omega)
          rw [decide_eq_true rfl] at htx
          have HI := Lib.hid htx
          have HS5 := Lib.hid hS5
          clear htx hS5 hM5 H4
          go_wp2_with fail
          refine HI.out.mono ?_
          rintro e u6 ⟨rfl, q, hq⟩
          have HS6 : Hid (Below W.heap.size W u6) := Lib.hid (by rw [hq]; exact below_drewN HS5.out q)
          clear hq HI HS5
          go_wp2_with fail
          refine ⟨HS6.out, ?_⟩
          refine wpAnyM_one 5 (by kernel_rfl) rfl ?_
          simp only [List.getElem_toArray, List.getElem_cons_succ, List.getElem_cons_zero]
          intro u7 hS7 hM7
          have HS7 := Lib.hid hS7
          clear hS7 hM7 HS6
          go_wp2_with fail
          refine ⟨HS7.out, ?_⟩
          refine wpAnyM_nil (by kernel_rfl) ?_
          intro u8 hS8 hM8
          refine NoPanic.normal ?_
          have HN8 := Lib.hid (HVw.out.trans ((HVW.out.trans (hS8.mono HVW.out.size)).mono HVw.out.size))
          clear hS8 hM8 HS7
          go_wp2_with fail
          go_ret
          exact ⟨rfl, HN8.out⟩
end Go.Proofs.Ytkfpnilbjjkhgaa
