/-
  THE WALK of the law RunsOrder.
-/
import Derived.Test.YtkfpnilbjjkhgaaRnZM
namespace Go.Proofs.Ytkfpnilbjjkhgaa
open Go.RowKit Go.Lib Go.Sort
set_option maxRecDepth 100000 in
set_option maxHeartbeats 8000000 in
theorem runsOrder_law (w : World) (v0 : Value) (la : List Po) (h0 : SP w v0 la) (v1 : Value) (lb : List Po) (h1 : SP w v1 lb) (v2 : Value) (lc : List Po) (h2 : SP w v2 lc) :
    Calls Try.prog 6 #[v0, v1, v2] w fun e w' => e = .returned (.bool true) ∧ Below w.heap.size w w' := by
  obtain ⟨A, n, c, rfl, hnc, hcm, hr⟩ := h0
  obtain ⟨B, m, d, rfl, hmd, hdm, hs⟩ := h1
  obtain ⟨C, p, f, rfl, hpf, hfm, ht⟩ := h2
  have HA := Lib.hid hr
  have HB := Lib.hid hs
  have HC := Lib.hid ht
  clear hr hs ht
  go_enter Try.func6, Try.ntmps6
  go_wp2_with fail
  refine (alive19_any w).mono ?_
  rintro e w1 ⟨rfl, hb1⟩
  have H1 := Lib.hid hb1
  clear hb1
  go_wp2_with fail
  refine (long_any w1 A n c la (HA.out.below H1.out)).mono ?_
  rintro e w2 ⟨bl, rfl, hbl, hb⟩
  have H2 := Lib.hid (H1.out.trans (hb.mono H1.out.size))
  have Hbl := Lib.hid hbl
  clear hb hbl H1
  cases bl with
  | true =>
    go_wp2_with fail
    go_ret
    exact ⟨rfl, H2.out⟩
  | false =>
    obtain ⟨h61, -⟩ := Hbl.out rfl
    rw [HA.out.1] at h61
    clear Hbl
    go_wp2_with fail
    refine (long_any w2 B m d lb (HB.out.below H2.out)).mono ?_
    rintro e w3 ⟨bl, rfl, hbl, hb⟩
    have H3 := Lib.hid (H2.out.trans (hb.mono H2.out.size))
    have Hbl := Lib.hid hbl
    clear hb hbl H2
    cases bl with
    | true =>
      go_wp2_with fail
      go_ret
      exact ⟨rfl, H3.out⟩
    | false =>
      obtain ⟨h62, -⟩ := Hbl.out rfl
      rw [HB.out.1] at h62
      clear Hbl
      go_wp2_with fail
      refine (long_any w3 C p f lc (HC.out.below H3.out)).mono ?_
      rintro e w4 ⟨bl, rfl, hbl, hb⟩
      have H4 := Lib.hid (H3.out.trans (hb.mono H3.out.size))
      have Hbl := Lib.hid hbl
      clear hb hbl H3
      cases bl with
      | true =>
        go_wp2_with fail
        go_ret
        exact ⟨rfl, H4.out⟩
      | false =>
        obtain ⟨h63, -⟩ := Hbl.out rfl
        rw [HC.out.1] at h63
        clear Hbl
        go_wp2_with fail
        have HW := H4
        clear H4 hnc hcm hmd hdm hpf hfm
        refine (posts_any w4 A n c la (HA.out.below HW.out) (by omega)).mono ?_
        rintro e w5 ⟨Ap, cp, rfl, hown, hb⟩
        rw [HA.out.1] at hown ⊢
        have hpc : n ≤ cp := by
          obtain ⟨A9, c9, e9, h9, -, -⟩ := own_formK hown
          cases e9
          exact h9
        have HW' := Lib.hid (And.intro (HW.out.trans (hb.mono HW.out.size)) (RP.of_own hown))
        clear hown hb HW
        go_wp2_with fail
        refine (new_run w5 Ap n cp la HW'.out.2 (by omega) hpc).mono ?_
        intro e w6 hp5
        obtain ⟨A1, c1, rfl, hr5, hc5, hm5, hb⟩ := hp5.rp
        have hl1 := newF_length la
        rw [HA.out.1] at hl1
        obtain ⟨n1, hn⟩ : ∃ n1, n1 = (newF la).length := ⟨_, rfl⟩
        rw [← hn] at hr5 hc5 hl1 ⊢
        have Hn1 := Lib.hid hn
        have HW := Lib.hid (HW'.out.1.trans (hb.mono HW'.out.1.size))
        have Q1 := Lib.hid (And.intro hr5 (And.intro hc5 hm5))
        clear HW' hp5 hr5 hc5 hm5 hb hpc hn
        go_wp2_with fail
        refine (posts_any w6 B m d lb (HB.out.below HW.out) (by omega)).mono ?_
        rintro e w7 ⟨Ap, cp, rfl, hown, hb⟩
        rw [HB.out.1] at hown ⊢
        have hpc : m ≤ cp := by
          obtain ⟨A9, c9, e9, h9, -, -⟩ := own_formK hown
          cases e9
          exact h9
        have Q1' := Lib.hid (And.intro (Q1.out.1.below hb) Q1.out.2)
        clear Q1
        have HW' := Lib.hid (And.intro (HW.out.trans (hb.mono HW.out.size)) (RP.of_own hown))
        clear hown hb HW
        go_wp2_with fail
        refine (new_run w7 Ap m cp lb HW'.out.2 (by omega) hpc).mono ?_
        intro e w8 hp5
        obtain ⟨A2, c2, rfl, hr5, hc5, hm5, hb⟩ := hp5.rp
        have hl2 := newF_length lb
        rw [HB.out.1] at hl2
        obtain ⟨n2, hn⟩ : ∃ n2, n2 = (newF lb).length := ⟨_, rfl⟩
        rw [← hn] at hr5 hc5 hl2 ⊢
        have Hn2 := Lib.hid hn
        have HW := Lib.hid (HW'.out.1.trans (hb.mono HW'.out.1.size))
        have Q2 := Lib.hid (And.intro hr5 (And.intro hc5 hm5))
        have Q1 := Lib.hid (And.intro (Q1'.out.1.below hb) Q1'.out.2)
        clear Q1'
        clear HW' hp5 hr5 hc5 hm5 hb hpc hn
        go_wp2_with fail
        refine (posts_any w8 C p f lc (HC.out.below HW.out) (by omega)).mono ?_
        rintro e w9 ⟨Ap, cp, rfl, hown, hb⟩
        rw [HC.out.1] at hown ⊢
        have hpc : p ≤ cp := by
          obtain ⟨A9, c9, e9, h9, -, -⟩ := own_formK hown
          cases e9
          exact h9
        have Q1' := Lib.hid (And.intro (Q1.out.1.below hb) Q1.out.2)
        clear Q1
        have Q2' := Lib.hid (And.intro (Q2.out.1.below hb) Q2.out.2)
        clear Q2
        have HW' := Lib.hid (And.intro (HW.out.trans (hb.mono HW.out.size)) (RP.of_own hown))
        clear hown hb HW
        go_wp2_with fail
        refine (new_run w9 Ap p cp lc HW'.out.2 (by omega) hpc).mono ?_
        intro e wa hp5
        obtain ⟨A3, c3, rfl, hr5, hc5, hm5, hb⟩ := hp5.rp
        have hl3 := newF_length lc
        rw [HC.out.1] at hl3
        obtain ⟨n3, hn⟩ : ∃ n3, n3 = (newF lc).length := ⟨_, rfl⟩
        rw [← hn] at hr5 hc5 hl3 ⊢
        have Hn3 := Lib.hid hn
        have HW := Lib.hid (HW'.out.1.trans (hb.mono HW'.out.1.size))
        have Q3 := Lib.hid (And.intro hr5 (And.intro hc5 hm5))
        have Q1 := Lib.hid (And.intro (Q1'.out.1.below hb) Q1'.out.2)
        clear Q1'
        have Q2 := Lib.hid (And.intro (Q2'.out.1.below hb) Q2'.out.2)
        clear Q2'
        clear HW' hp5 hr5 hc5 hm5 hb hpc hn
        go_wp2_with fail
        have hb7 : Below wa.heap.size wa (((wa.alloc (.cells #[.slice A1 n1 c1] 28)).alloc (.cells #[.slice A2 n2 c2] 28)).alloc (.cells #[.slice A3 n3 c3] 28)) := (((Below.refl _ _).alloc (Nat.le_refl _) _).alloc (by simp) _).alloc (by simp; omega) _
        have k1 : (((wa.alloc (.cells #[.slice A1 n1 c1] 28)).alloc (.cells #[.slice A2 n2 c2] 28)).alloc (.cells #[.slice A3 n3 c3] 28)).heap[wa.heap.size]? = some (.cells #[.slice A1 n1 c1] 28 (0, 0)) := (Below.heap_alloc _ _ _ (by simp; omega)).trans ((Below.heap_alloc _ _ _ (by simp)).trans (heap_alloc_new wa _))
        have k2 : (((wa.alloc (.cells #[.slice A1 n1 c1] 28)).alloc (.cells #[.slice A2 n2 c2] 28)).alloc (.cells #[.slice A3 n3 c3] 28)).heap[wa.heap.size + 1]? = some (.cells #[.slice A2 n2 c2] 28 (0, 0)) := (Below.heap_alloc _ _ _ (by simp)).trans (heap_alloc_at _ _ _ (by simp))
        have k3 : (((wa.alloc (.cells #[.slice A1 n1 c1] 28)).alloc (.cells #[.slice A2 n2 c2] 28)).alloc (.cells #[.slice A3 n3 c3] 28)).heap[wa.heap.size + 1 + 1]? = some (.cells #[.slice A3 n3 c3] 28 (0, 0)) := heap_alloc_at _ _ _ (by simp)
        obtain ⟨V, hV⟩ : ∃ V, V = (((wa.alloc (.cells #[.slice A1 n1 c1] 28)).alloc (.cells #[.slice A2 n2 c2] 28)).alloc (.cells #[.slice A3 n3 c3] 28)) := ⟨_, rfl⟩
        rw [← hV] at hb7 k1 k2 k3 ⊢
        have R7 : Hid (RunBox V wa.heap.size A1 n1 c1 (newF la)) := Lib.hid ⟨rangeAt_blk k1, Q1.out.1.below hb7, Q1.out.2⟩
        have R8 : Hid (RunBox V (wa.heap.size + 1) A2 n2 c2 (newF lb)) := Lib.hid ⟨rangeAt_blk k2, Q2.out.1.below hb7, Q2.out.2⟩
        have R9 : Hid (RunBox V (wa.heap.size + 1 + 1) A3 n3 c3 (newF lc)) := Lib.hid ⟨rangeAt_blk k3, Q3.out.1.below hb7, Q3.out.2⟩
        have HVw := Lib.hid (HW.out.trans (hb7.mono HW.out.size))
        obtain ⟨b7, h7⟩ : ∃ b7, b7 = wa.heap.size := ⟨_, rfl⟩
        rw [← h7] at R7 R8 R9 ⊢
        clear k1 k2 k3 hV hb7 HW Q1 Q2 Q3 h7
        refine wp_region_noPanic ?_
        refine wp_region_movesJ [0, 1, 4, 7, 8, 9] (fun u => Below V.heap.size V u) (fun u u' => Below u.heap.size u u') (fun u => Below.refl _ _) (fun h k => h.trans (k.mono h.size)) (by kernel_rfl) (by kernel_rfl) (by kernel_rfl) (below_drewN (Below.refl _ _) 1) (fun _ _ _ _ _ h => h) ?_
        simp only [List.filterMap, List.getElem?_cons_zero, List.getElem?_cons_succ]
        refine wpMH_loadW (fun u => Below.refl _ _) (by rfl) _ _ rfl b7 0 rfl [.slice A1 n1 c1] _ (fun u hu => rangeAt_below' R7.out.1 hu) Try.underlying28 rfl (info_run _) ?_
        simp only [Act.put, List.setIfInBounds_toArray, List.set_cons_zero, List.set_cons_succ]
        refine wpMH_loadW (fun u => Below.refl _ _) (by rfl) _ _ rfl (b7 + 1) 0 rfl [.slice A2 n2 c2] _ (fun u hu => rangeAt_below' R8.out.1 hu) Try.underlying28 rfl (info_run _) ?_
        simp only [Act.put, List.setIfInBounds_toArray, List.set_cons_zero, List.set_cons_succ]
        refine wpMH_loadW (fun u => Below.refl _ _) (by rfl) _ _ rfl (b7 + 1 + 1) 0 rfl [.slice A3 n3 c3] _ (fun u hu => rangeAt_below' R9.out.1 hu) Try.underlying28 rfl (info_run _) ?_
        simp only [Act.put, List.setIfInBounds_toArray, List.set_cons_zero, List.set_cons_succ]
        refine wpMH_loadW (fun u => Below.refl _ _) (by rfl) _ _ rfl (b7 + 1 + 1) 0 rfl [.slice A3 n3 c3] _ (fun u hu => rangeAt_below' R9.out.1 hu) Try.underlying28 rfl (info_run _) ?_
        simp only [Act.put, List.setIfInBounds_toArray, List.set_cons_zero, List.set_cons_succ]
        refine wpMH_loadW (fun u => Below.refl _ _) (by rfl) _ _ rfl (b7 + 1) 0 rfl [.slice A2 n2 c2] _ (fun u hu => rangeAt_below' R8.out.1 hu) Try.underlying28 rfl (info_run _) ?_
        simp only [Act.put, List.setIfInBounds_toArray, List.set_cons_zero, List.set_cons_succ]
        refine wpMH_loadW (fun u => Below.refl _ _) (by rfl) _ _ rfl b7 0 rfl [.slice A1 n1 c1] _ (fun u hu => rangeAt_below' R7.out.1 hu) Try.underlying28 rfl (info_run _) ?_
        simp only [Act.put, List.setIfInBounds_toArray, List.set_cons_zero, List.set_cons_succ]
        refine wpMH_nil ?_
        have hlen : (newF la).length ≤ 61 ∧ (newF lb).length ≤ 61 ∧ (newF lc).length ≤ 61 ∧ (newF (la ++ lb)).length ≤ 122 ∧ (newF (lb ++ la)).length ≤ 122 := by
          have q1 := newF_length la
          have q2 := newF_length lb
          have q3 := newF_length lc
          have q4 := newF_length (la ++ lb)
          have q5 := newF_length (lb ++ la)
          rw [List.length_append] at q4 q5
          rw [HA.out.1] at q1 q4 q5
          rw [HB.out.1] at q2 q4 q5
          rw [HC.out.1] at q3
          omega
        have Hlen := Lib.hid hlen
        obtain ⟨L, hL⟩ : ∃ L, L = newF ((la ++ lb) ++ lc) := ⟨_, rfl⟩
        have hL2 : newF (lc ++ (lb ++ la)) = L := by
          rw [hL]
          exact newF_ext fun z => by simp only [List.mem_append]; grind
        have HL := Lib.hid hL
        have HL2 := Lib.hid hL2
        clear hL hL2 hlen
        refine wpAnyM_inv (OrX V la lb lc L) (orL true true true true true true true true true true) orC 10 2 (by kernel_rfl) (fun _ _ _ _ h _ h2 => OrX.stable h h2) ?step (fun _ _ _ h => OrX.some (by kernel_rfl) h) ?fin (fun _ _ _ _ h => OrX.cnt (by kernel_rfl) h) (fun _ _ _ h => OrX.all h) (by kernel_rfl) (by kernel_rfl) ?start
        case step =>
          intro l a u i hX hS hT hi
          obtain ⟨x2, x3, x5, x6, x10, x11, x12, x13, x14, x15, t37, t38, t40, t41, t45, t46, t47, t48, t10, t11, rfl, rfl, hI⟩ := hX
          rcases or_ready (by kernel_rfl) _ _ _ _ _ _ _ _ _ _ i hi with ⟨rfl, rfl⟩ | ⟨rfl, rfl, rfl⟩ | ⟨rfl, rfl, rfl⟩ | ⟨rfl, rfl, rfl⟩ | ⟨rfl, rfl⟩ | ⟨rfl, rfl, rfl⟩ | ⟨rfl, rfl, rfl⟩ | ⟨rfl, rfl, rfl⟩ | ⟨rfl, rfl⟩ | ⟨rfl, rfl⟩ | ⟨rfl, rfl, rfl, rfl, rfl, rfl, rfl, rfl⟩
          · refine wpOp_list rfl ?_
            simp only [List.getElem_toArray, List.getElem_cons_succ, List.getElem_cons_zero, Act.put, List.setIfInBounds_toArray, List.set_cons_zero, List.set_cons_succ]
            have HI := Lib.hid hI
            clear hI hS hT hi
            go_wp2_with fail
            have hb : Below u.heap.size u (u.alloc (.cells #[.slice A1 n1 c1, .slice A2 n2 c2] 28)) := (Below.refl _ _).alloc (Nat.le_refl _) _
            have hs := HI.out.stable hb
            refine ⟨hs.below, true, x3, x5, x6, x10, x11, x12, x13, x14, x15, .slice (some ⟨u.heap.size, 0, none⟩) 2 2, t38, t40, t41, t45, t46, t47, t48, t10, t11, rfl, by simp only [Act.put, List.setIfInBounds_toArray, List.set_cons_zero, List.set_cons_succ], { hs with p2 := fun _ => ⟨u.heap.size, _, rfl, runs_two (R7.out.2.1.below HI.out.below) (R8.out.2.1.below HI.out.below) R7.out.2.2.1 R8.out.2.2.1 R7.out.2.2.2 R8.out.2.2.2⟩ }⟩
          · refine wpOp_list rfl ?_
            simp only [List.getElem_toArray, List.getElem_cons_succ, List.getElem_cons_zero, Act.put, List.setIfInBounds_toArray, List.set_cons_zero, List.set_cons_succ]
            have HI := Lib.hid hI
            clear hI hS hT hi
            obtain ⟨b0, vs, rfl, hra⟩ := HI.out.p2 rfl
            have hmg := merge_any u _ 2 2 _ _ hra (asc_two _ _) (by have := Hlen.out; simp; omega) (by omega)
            rw [newF_two] at hmg
            have HMG := Lib.hid hmg
            clear hra hmg
            go_wp2_with fail
            refine HMG.out.mono ?_
            intro e u2 hp
            obtain ⟨A0, c0, rfl, hr, hc, hm, hb⟩ := hp.rp
            clear hp HMG
            have hs := HI.out.stable hb
            go_wp2_with fail
            refine ⟨hs.below, true, true, x5, x6, x10, x11, x12, x13, x14, x15, .slice (some ⟨b0, 0, none⟩) 2 2, .agg #[.slice A0 (newF (la ++ lb)).length c0], t40, t41, t45, t46, t47, t48, t10, t11, rfl, by simp only [Act.put, List.setIfInBounds_toArray, List.set_cons_zero, List.set_cons_succ], { hs with p3 := fun _ => ⟨A0, c0, rfl, hr, hc, hm⟩ }⟩
          · refine wpOp_list rfl ?_
            simp only [List.getElem_toArray, List.getElem_cons_succ, List.getElem_cons_zero, Act.put, List.setIfInBounds_toArray, List.set_cons_zero, List.set_cons_succ]
            have HI := Lib.hid hI
            clear hI hS hT hi
            obtain ⟨A0, c0, rfl, hr, hc, hm⟩ := HI.out.p3 rfl
            have Hr := Lib.hid (And.intro hr (And.intro hc hm))
            clear hr hc hm
            go_wp2_with fail
            have hb : Below u.heap.size u (u.alloc (.cells #[.slice A0 (newF (la ++ lb)).length c0, .slice A3 n3 c3] 28)) := (Below.refl _ _).alloc (Nat.le_refl _) _
            have hs := HI.out.stable hb
            refine ⟨hs.below, x2, true, true, x6, x10, x11, x12, x13, x14, x15, t37, .agg #[.slice A0 (newF (la ++ lb)).length c0], .slice (some ⟨u.heap.size, 0, none⟩) 2 2, t41, t45, t46, t47, t48, t10, t11, rfl, by simp only [Act.put, List.setIfInBounds_toArray, List.set_cons_zero, List.set_cons_succ], { hs with p5 := fun _ => ⟨u.heap.size, _, rfl, runs_two Hr.out.1 (R9.out.2.1.below HI.out.below) Hr.out.2.1 R9.out.2.2.1 Hr.out.2.2 R9.out.2.2.2⟩ }⟩
          · refine wpOp_list rfl ?_
            simp only [List.getElem_toArray, List.getElem_cons_succ, List.getElem_cons_zero, Act.put, List.setIfInBounds_toArray, List.set_cons_zero, List.set_cons_succ]
            have HI := Lib.hid hI
            clear hI hS hT hi
            obtain ⟨b0, vs, rfl, hra⟩ := HI.out.p5 rfl
            have hmg := merge_any u _ 2 2 _ _ hra (asc_two _ _) (by have := Hlen.out; simp; omega) (by omega)
            rw [newF_two] at hmg
            rw [← HL.out] at hmg
            have HMG := Lib.hid hmg
            clear hra hmg
            go_wp2_with fail
            refine HMG.out.mono ?_
            intro e u2 hp
            obtain ⟨A0, c0, rfl, hr, hc, hm, hb⟩ := hp.rp
            clear hp HMG
            have hs := HI.out.stable hb
            go_wp2_with fail
            refine ⟨hs.below, x2, x3, true, true, x10, x11, x12, x13, x14, x15, t37, t38, .slice (some ⟨b0, 0, none⟩) 2 2, .agg #[.slice A0 L.length c0], t45, t46, t47, t48, t10, t11, rfl, by simp only [Act.put, List.setIfInBounds_toArray, List.set_cons_zero, List.set_cons_succ], { hs with p6 := fun _ => ⟨A0, c0, rfl, hr, hc, hm⟩ }⟩
          · refine wpOp_list rfl ?_
            simp only [List.getElem_toArray, List.getElem_cons_succ, List.getElem_cons_zero, Act.put, List.setIfInBounds_toArray, List.set_cons_zero, List.set_cons_succ]
            have HI := Lib.hid hI
            clear hI hS hT hi
            go_wp2_with fail
            have hb : Below u.heap.size u (u.alloc (.cells #[.slice A2 n2 c2, .slice A1 n1 c1] 28)) := (Below.refl _ _).alloc (Nat.le_refl _) _
            have hs := HI.out.stable hb
            refine ⟨hs.below, x2, x3, x5, x6, true, x11, x12, x13, x14, x15, t37, t38, t40, t41, .slice (some ⟨u.heap.size, 0, none⟩) 2 2, t46, t47, t48, t10, t11, rfl, by simp only [Act.put, List.setIfInBounds_toArray, List.set_cons_zero, List.set_cons_succ], { hs with p10 := fun _ => ⟨u.heap.size, _, rfl, runs_two (R8.out.2.1.below HI.out.below) (R7.out.2.1.below HI.out.below) R8.out.2.2.1 R7.out.2.2.1 R8.out.2.2.2 R7.out.2.2.2⟩, c11 := fun _ => rfl }⟩
          · refine wpOp_list rfl ?_
            simp only [List.getElem_toArray, List.getElem_cons_succ, List.getElem_cons_zero, Act.put, List.setIfInBounds_toArray, List.set_cons_zero, List.set_cons_succ]
            have HI := Lib.hid hI
            clear hI hS hT hi
            obtain ⟨b0, vs, rfl, hra⟩ := HI.out.p10 rfl
            have hmg := merge_any u _ 2 2 _ _ hra (asc_two _ _) (by have := Hlen.out; simp; omega) (by omega)
            rw [newF_two] at hmg
            have HMG := Lib.hid hmg
            clear hra hmg
            go_wp2_with fail
            refine HMG.out.mono ?_
            intro e u2 hp
            obtain ⟨A0, c0, rfl, hr, hc, hm, hb⟩ := hp.rp
            clear hp HMG
            have hs := HI.out.stable hb
            go_wp2_with fail
            refine ⟨hs.below, x2, x3, x5, x6, true, true, x12, x13, x14, x15, t37, t38, t40, t41, .slice (some ⟨b0, 0, none⟩) 2 2, .agg #[.slice A0 (newF (lb ++ la)).length c0], t47, t48, t10, t11, rfl, by simp only [Act.put, List.setIfInBounds_toArray, List.set_cons_zero, List.set_cons_succ], { hs with p11 := fun _ => ⟨A0, c0, rfl, hr, hc, hm⟩, c11 := fun _ => rfl, c12 := fun _ => rfl }⟩
          · refine wpOp_list rfl ?_
            simp only [List.getElem_toArray, List.getElem_cons_succ, List.getElem_cons_zero, Act.put, List.setIfInBounds_toArray, List.set_cons_zero, List.set_cons_succ]
            have HI := Lib.hid hI
            clear hI hS hT hi
            obtain ⟨A0, c0, rfl, hr, hc, hm⟩ := HI.out.p11 rfl
            have Hr := Lib.hid (And.intro hr (And.intro hc hm))
            clear hr hc hm
            go_wp2_with fail
            have hb : Below u.heap.size u (u.alloc (.cells #[.slice A3 n3 c3, .slice A0 (newF (lb ++ la)).length c0] 28)) := (Below.refl _ _).alloc (Nat.le_refl _) _
            have hs := HI.out.stable hb
            refine ⟨hs.below, x2, x3, x5, x6, x10, true, true, x13, x14, x15, t37, t38, t40, t41, t45, .agg #[.slice A0 (newF (lb ++ la)).length c0], .slice (some ⟨u.heap.size, 0, none⟩) 2 2, t48, t10, t11, rfl, by simp only [Act.put, List.setIfInBounds_toArray, List.set_cons_zero, List.set_cons_succ], { hs with p12 := fun _ => ⟨u.heap.size, _, rfl, runs_two (R9.out.2.1.below HI.out.below) Hr.out.1 R9.out.2.2.1 Hr.out.2.1 R9.out.2.2.2 Hr.out.2.2⟩, c12 := fun _ => rfl, c13 := fun _ => rfl }⟩
          · refine wpOp_list rfl ?_
            simp only [List.getElem_toArray, List.getElem_cons_succ, List.getElem_cons_zero, Act.put, List.setIfInBounds_toArray, List.set_cons_zero, List.set_cons_succ]
            have HI := Lib.hid hI
            clear hI hS hT hi
            obtain ⟨b0, vs, rfl, hra⟩ := HI.out.p12 rfl
            have hmg := merge_any u _ 2 2 _ _ hra (asc_two _ _) (by have := Hlen.out; simp; omega) (by omega)
            rw [newF_two] at hmg
            rw [HL2.out] at hmg
            have HMG := Lib.hid hmg
            clear hra hmg
            go_wp2_with fail
            refine HMG.out.mono ?_
            intro e u2 hp
            obtain ⟨A0, c0, rfl, hr, hc, hm, hb⟩ := hp.rp
            clear hp HMG
            have hs := HI.out.stable hb
            go_wp2_with fail
            refine ⟨hs.below, x2, x3, x5, x6, x10, x11, true, true, x14, x15, t37, t38, t40, t41, t45, t46, .slice (some ⟨b0, 0, none⟩) 2 2, .agg #[.slice A0 L.length c0], t10, t11, rfl, by simp only [Act.put, List.setIfInBounds_toArray, List.set_cons_zero, List.set_cons_succ], { hs with p13 := fun _ => ⟨A0, c0, rfl, hr, hc, hm⟩, c13 := fun _ => rfl }⟩
          · refine wpOp_list rfl ?_
            simp only [List.getElem_toArray, List.getElem_cons_succ, List.getElem_cons_zero, Act.put, List.setIfInBounds_toArray, List.set_cons_zero, List.set_cons_succ]
            have HI := Lib.hid hI
            clear hI hS hT hi
            go_wp2_with fail
            have hb : Below u.heap.size u (u.alloc (.cells #[.slice none 0 0] 28)) := (Below.refl _ _).alloc (Nat.le_refl _) _
            have hs := HI.out.stable hb
            refine ⟨hs.below, x2, x3, x5, x6, x10, x11, x12, x13, true, x15, t37, t38, t40, t41, t45, t46, t47, t48, .pointer (some ⟨u.heap.size, 0, none⟩), t11, rfl, by simp only [Act.put, List.setIfInBounds_toArray, List.set_cons_zero, List.set_cons_succ], { hs with p14 := fun _ => ⟨u.heap.size, rfl, HI.out.below.size, heap_alloc_new u _⟩, ne := ?_ }⟩
            intro _ h e
            obtain ⟨b', e2, h3, h4⟩ := HI.out.p15 h
            rw [e2] at e
            simp at e
            have h5 := (Array.getElem?_eq_some_iff.1 h4).1
            omega
          · refine wpOp_list rfl ?_
            simp only [List.getElem_toArray, List.getElem_cons_succ, List.getElem_cons_zero, Act.put, List.setIfInBounds_toArray, List.set_cons_zero, List.set_cons_succ]
            have HI := Lib.hid hI
            clear hI hS hT hi
            go_wp2_with fail
            have hb : Below u.heap.size u (u.alloc (.cells #[.slice none 0 0] 28)) := (Below.refl _ _).alloc (Nat.le_refl _) _
            have hs := HI.out.stable hb
            refine ⟨hs.below, x2, x3, x5, x6, x10, x11, x12, x13, x14, true, t37, t38, t40, t41, t45, t46, t47, t48, t10, .pointer (some ⟨u.heap.size, 0, none⟩), rfl, by simp only [Act.put, List.setIfInBounds_toArray, List.set_cons_zero, List.set_cons_succ], { hs with p15 := fun _ => ⟨u.heap.size, rfl, HI.out.below.size, heap_alloc_new u _⟩, ne := ?_ }⟩
            intro h _ e
            obtain ⟨b', e2, h3, h4⟩ := HI.out.p14 h
            rw [e2] at e
            simp at e
            have h5 := (Array.getElem?_eq_some_iff.1 h4).1
            omega
          · obtain rfl := hI.c13 rfl
            obtain rfl := hI.c12 rfl
            obtain rfl := hI.c11 rfl
            exact absurd rfl hT
        case start =>
          exact ⟨false, false, false, false, false, false, false, false, false, false, undef, undef, undef, undef, undef, undef, undef, undef, undef, undef, rfl, by simp only [Act.put, List.setIfInBounds_toArray, List.set_cons_zero, List.set_cons_succ], ⟨below_drewN (Below.refl _ _) 1, (fun h => by cases h), (fun h => by cases h), (fun h => by cases h), (fun h => by cases h), (fun h => by cases h), (fun h => by cases h), (fun h => by cases h), (fun h => by cases h), (fun h => by cases h), (fun h => by cases h), (fun h => by cases h), (fun h => by cases h), (fun h => by cases h), (fun h => by cases h)⟩⟩
        case fin =>
          intro a u hX
          obtain ⟨x2, x3, x5, x6, x10, x11, x12, x13, x14, x15, t37, t38, t40, t41, t45, t46, t47, t48, t10, t11, hl, rfl, hI⟩ := hX
          have e6 : x6 = true := by simp [orL] at hl; grind
          have e13 : x13 = true := by simp [orL] at hl; grind
          have e14 : x14 = true := by simp [orL] at hl; grind
          have e15 : x15 = true := by simp [orL] at hl; grind
          obtain ⟨A10, c10, rfl, hr1, hc1, hm1⟩ := hI.p6 e6
          obtain ⟨A11, c11, rfl, hr2, hc2, hm2⟩ := hI.p13 e13
          obtain ⟨b10, rfl, hB10, k10⟩ := hI.p14 e14
          obtain ⟨b11, rfl, hB11, k11⟩ := hI.p15 e15
          have hne : b10 ≠ b11 := fun e => hI.ne e14 e15 (by rw [e])
          obtain ⟨N, hN⟩ : ∃ N, N = L.length := ⟨_, rfl⟩
          rw [← hN] at hr1 hc1 hr2 hc2 ⊢
          have HN := Lib.hid hN
          have G := Lib.hid (And.intro hr1 (And.intro hr2 (And.intro k10 k11)))
          have GC := Lib.hid (And.intro hc1 (And.intro hm1 (And.intro hc2 hm2)))
          have GB := Lib.hid (And.intro hB10 (And.intro hB11 hne))
          clear hr1 hr2 hc1 hc2 hm1 hm2 hB10 hB11 hne k10 k11 hI hl e6 e13 e14 e15 hN
          simp only [Act.put, List.setIfInBounds_toArray, List.set_cons_zero, List.set_cons_succ]
          refine wpAnyM_one 16 (by kernel_rfl) rfl ?_
          simp only [List.getElem_toArray, List.getElem_cons_succ, List.getElem_cons_zero]
          intro u1 hS1 hM1
          have hth : u1.there b10 0 (#[Value.slice A10 N c10]).size := there_blk (heap_below G.out.2.2.1 hM1) (by simp)
          have hlt : b10 < u1.heap.size := (Array.getElem?_eq_some_iff.1 (heap_below G.out.2.2.1 hM1)).1
          obtain ⟨W1, hW1⟩ : ∃ W1, W1 = u1.setCells b10 0 [Value.slice A10 N c10] := ⟨_, rfl⟩
          have hfar := setCells_far u1 b10 [Value.slice A10 N c10]
          have hra := World.rangeAt_setCells_same u1 b10 0 [Value.slice A10 N c10] hth
          have hbe : Below V.heap.size V (u1.setCells b10 0 [Value.slice A10 N c10]) := below_setCells GB.out.1 _ _ _ hS1
          rw [← hW1] at hfar hra hbe
          have g1 := (G.out.1.below hM1).box_far (heap_below G.out.2.2.1 hM1) hfar
          have g2 := (G.out.2.1.below hM1).box_far (heap_below G.out.2.2.1 hM1) hfar
          have g3 := (hfar b11 (Array.getElem?_eq_some_iff.1 (heap_below G.out.2.2.2 hM1)).1 (fun e => GB.out.2.2 e.symm)).trans (heap_below G.out.2.2.2 hM1)
          have G1 := Lib.hid (And.intro hra (And.intro g1 (And.intro g2 g3)))
          have HBe := Lib.hid hbe
          have HW1 := Lib.hid hW1
          clear hfar hra g1 g2 g3 hbe hS1 hM1 hlt hW1 G
          go_wp2_with ((with_reducible show wpList _ _ _ (⟨_, Op.store 28 _ _, _, _, _, _⟩ :: _) _ _); refine wpList_store_mid rfl _ _ _ rfl b10 0 #[.slice A10 N c10] rfl rfl hth (info_run _) (one_slice' _ _ _) ?_; rw [show (#[Value.slice A10 N c10]).toList = [Value.slice A10 N c10] from rfl, ← HW1.out])
          refine ⟨HBe.out, ?_⟩
          clear hth HW1
          refine wpAnyM_one 17 (by kernel_rfl) rfl ?_
          simp only [List.getElem_toArray, List.getElem_cons_succ, List.getElem_cons_zero]
          intro u2 hS2 hM2
          have hth : u2.there b11 0 (#[Value.slice A11 N c11]).size := there_blk (heap_below G1.out.2.2.2 hM2) (by simp)
          obtain ⟨W2, hW2⟩ : ∃ W2, W2 = u2.setCells b11 0 [Value.slice A11 N c11] := ⟨_, rfl⟩
          have hfar := setCells_far u2 b11 [Value.slice A11 N c11]
          have hra := World.rangeAt_setCells_same u2 b11 0 [Value.slice A11 N c11] hth
          have hbe : Below V.heap.size V (u2.setCells b11 0 [Value.slice A11 N c11]) := below_setCells GB.out.2.1 _ _ _ hS2
          rw [← hW2] at hfar hra hbe
          have r1 : RunBox W2 b10 A10 N c10 L := by
            refine ⟨fun j v hv => ?_, (G1.out.2.1.below hM2).box_far (heap_below G1.out.2.2.2 hM2) hfar, GC.out.1, GC.out.2.1⟩
            have hc := rangeAt_below' G1.out.1 hM2 j v hv
            exact (World.cell?_of_block (a := ⟨b10, 0 + j, none⟩) (hfar b10 (World.block_lt_of_cell? u2 ⟨b10, 0 + j, none⟩ hc) GB.out.2.2)).trans hc
          have r2 : RunBox W2 b11 A11 N c11 L := ⟨hra, (G1.out.2.2.1.below hM2).box_far (heap_below G1.out.2.2.2 hM2) hfar, GC.out.2.2.1, GC.out.2.2.2⟩
          have R1 := Lib.hid r1
          have R2 := Lib.hid r2
          have HBe2 := Lib.hid hbe
          have HW2 := Lib.hid hW2
          clear hfar hra r1 r2 hbe hW2 hS2 hM2 G1 HBe GB GC R7 R8 R9
          go_wp2_with ((with_reducible show wpList _ _ _ (⟨_, Op.store 28 _ _, _, _, _, _⟩ :: _) _ _); refine wpList_store_mid rfl _ _ _ rfl b11 0 #[.slice A11 N c11] rfl rfl hth (info_run _) (one_slice' _ _ _) ?_; rw [show (#[Value.slice A11 N c11]).toList = [Value.slice A11 N c11] from rfl, ← HW2.out])
          refine ⟨HBe2.out, ?_⟩
          clear hth HW2
          refine wpAnyM_nil (by kernel_rfl) ?_
          intro V1 hS3 hM3
          have HVn := Lib.hid (HVw.out.trans (hS3.mono HVw.out.size))
          have R1n := Lib.hid (R1.out.below hM3)
          have R2n := Lib.hid (R2.out.below hM3)
          clear HVw R1 R2 HBe2 hS3 hM3
          refine NoPanic.normal ?_
          obtain ⟨HVw, R1, R2⟩ : Hid (Below w.heap.size w V1) ∧ Hid (RunBox V1 b10 A10 N c10 L) ∧ Hid (RunBox V1 b11 A11 N c11 L) := ⟨HVn, R1n, R2n⟩
          clear HVn R1n R2n
          obtain ⟨V, rfl⟩ : ∃ V, V = V1 := ⟨V1, rfl⟩
          go_wp2_with fail
          have hasc : Asc L := by rw [HL.out]; exact (newF_all _).1
          have Hasc := Lib.hid hasc
          have hLn : L.length ≤ 200 := by
            have q := newF_length ((la ++ lb) ++ lc)
            rw [← HL.out, List.length_append, List.length_append, HA.out.1, HB.out.1, HC.out.1] at q
            omega
          rw [← HN.out] at hLn
          clear hasc
          refine wp_region_noPanic ?_
          refine wp_region_movesJ [0, 2] (fun u => Below V.heap.size V u) (fun u u' => Below u.heap.size u u') (fun u => Below.refl _ _) (fun h k => h.trans (k.mono h.size)) (by kernel_rfl) (by kernel_rfl) (by kernel_rfl) (below_drewN (Below.refl _ _) 1) (fun _ _ _ _ _ h => h) ?_
          simp only [List.filterMap, List.getElem?_cons_zero, List.getElem?_cons_succ]
          refine wpMH_loadW (fun u => Below.refl _ _) (by rfl) _ _ rfl b10 0 rfl [.slice A10 N c10] _ (fun u hu => rangeAt_below' R1.out.1 hu) Try.underlying28 rfl (info_run _) ?_
          simp only [Act.put, List.setIfInBounds_toArray, List.set_cons_zero, List.set_cons_succ]
          refine wpMH_loadW (fun u => Below.refl _ _) (by rfl) _ _ rfl b11 0 rfl [.slice A11 N c11] _ (fun u hu => rangeAt_below' R2.out.1 hu) Try.underlying28 rfl (info_run _) ?_
          simp only [Act.put, List.setIfInBounds_toArray, List.set_cons_zero, List.set_cons_succ]
          refine wpMH_nil ?_
          refine wpAnyM_one 1 (by kernel_rfl) rfl ?_
          simp only [List.getElem_toArray, List.getElem_cons_succ, List.getElem_cons_zero]
          intro u1 hS1 hM1
          have HS1 := Lib.hid hS1
          clear hS1 hM1 
          go_wp2_with fail
          refine (runLen_any u1 A10 N c10).mono ?_
          rintro e u2 ⟨rfl, hu2⟩
          have hb := (Below.refl u1.heap.size u1).alloc (Nat.le_refl _) (.cells #[.slice A10 N c10] 28)
          rw [← hu2] at hb
          clear hu2
          have HS2 := Lib.hid (HS1.out.trans (hb.mono HS1.out.size))
          clear hb HS1 
          go_wp2_with fail
          refine ⟨HS2.out, ?_⟩
          clear HS2
          refine wpAnyM_one 3 (by kernel_rfl) rfl ?_
          simp only [List.getElem_toArray, List.getElem_cons_succ, List.getElem_cons_zero]
          intro u1 hS1 hM1
          have HS1 := Lib.hid hS1
          clear hS1 hM1 
          go_wp2_with fail
          refine (runLen_any u1 A11 N c11).mono ?_
          rintro e u2 ⟨rfl, hu2⟩
          have hb := (Below.refl u1.heap.size u1).alloc (Nat.le_refl _) (.cells #[.slice A11 N c11] 28)
          rw [← hu2] at hb
          clear hu2
          have HS2 := Lib.hid (HS1.out.trans (hb.mono HS1.out.size))
          clear hb HS1 
          go_wp2_with fail
          refine ⟨HS2.out, ?_⟩
          clear HS2
          refine wpAnyM_one 4 (by kernel_rfl) rfl ?_
          simp only [List.getElem_toArray, List.getElem_cons_succ, List.getElem_cons_zero]
          intro u1 hS1 hM1
          have HS2 := Lib.hid hS1
          clear hS1 hM1 
          go_wp2_with fail
          refine ⟨HS2.out, ?_⟩
          clear HS2
          refine wpAnyM_one 5 (by kernel_rfl) rfl ?_
          simp only [List.getElem_toArray, List.getElem_cons_succ, List.getElem_cons_zero]
          intro u1 hS1 hM1
          have HS2 := Lib.hid hS1
          clear hS1 hM1 
          go_wp2_with fail
          refine ⟨HS2.out, ?_⟩
          clear HS2
          refine wpAnyM_mid [6, 7, 11] 11 (by kernel_rfl) (fun u => Below.refl _ _) (fun h k => h.trans (k.mono h.size)) (by kernel_rfl) (fun _ _ _ _ _ h => h) (by kernel_rfl) (by kernel_rfl) ?_
          simp only [List.filterMap, List.getElem?_cons_zero, List.getElem?_cons_succ]
          refine wpMH_loadW (fun u => Below.refl _ _) (by rfl) _ _ rfl b10 0 rfl [.slice A10 N c10] _ (fun u hu => rangeAt_below' R1.out.1 hu) Try.underlying28 rfl (info_run _) ?_
          simp only [Act.put, List.setIfInBounds_toArray, List.set_cons_zero, List.set_cons_succ]
          refine wpMH_loadW (fun u => Below.refl _ _) (by rfl) _ _ rfl b10 0 rfl [.slice A10 N c10] _ (fun u hu => rangeAt_below' R1.out.1 hu) Try.underlying28 rfl (info_run _) ?_
          simp only [Act.put, List.setIfInBounds_toArray, List.set_cons_zero, List.set_cons_succ]
          refine wpMH_loadW (fun u => Below.refl _ _) (by rfl) _ _ rfl b10 0 rfl [.slice A10 N c10] _ (fun u hu => rangeAt_below' R1.out.1 hu) Try.underlying28 rfl (info_run _) ?_
          simp only [Act.put, List.setIfInBounds_toArray, List.set_cons_zero, List.set_cons_succ]
          refine wpMH_nil ?_
          refine wpAnyM_one 8 (by kernel_rfl) rfl ?_
          simp only [List.getElem_toArray, List.getElem_cons_succ, List.getElem_cons_zero]
          intro u1 hS1 hM1
          have hra := runs_two (R1.out.2.1.below hS1) (R1.out.2.1.below hS1) R1.out.2.2.1 R1.out.2.2.1 R1.out.2.2.2 R1.out.2.2.2
          have hba : Below u1.heap.size u1 (u1.alloc (.cells #[.slice A10 N c10, .slice A10 N c10] 28)) := (Below.refl _ _).alloc (Nat.le_refl _) _
          have HRA := Lib.hid hra
          have HS2 := Lib.hid (Below.trans hS1 (hba.mono hS1.size))
          clear hra hba hS1 hM1
          go_wp2_with fail
          refine ⟨HS2.out, ?_⟩
          clear HS2
          refine wpAnyM_one 9 (by kernel_rfl) rfl ?_
          simp only [List.getElem_toArray, List.getElem_cons_succ, List.getElem_cons_zero]
          intro u2 hS2 hM2
          have hmg := merge_any u2 _ 2 2 _ [L, L] (HRA.out.below hM2) (by intro l hl; simp at hl; subst hl; exact Hasc.out) (by have := HN.out; simp; omega) (by omega)
          rw [show newF ([L, L].flatten) = L from Asc.uniq (newF_all _).1 Hasc.out fun z => by simp [(newF_all _).2]] at hmg
          have HMG := Lib.hid hmg
          have HS2 := Lib.hid hS2
          clear hmg hS2 hM2 HRA
          go_wp2_with fail
          refine HMG.out.mono ?_
          intro e u3 hp
          obtain ⟨A0, c0, rfl, -, -, -, hb⟩ := hp.rp
          have HS3 := Lib.hid (Below.trans HS2.out (hb.mono HS2.out.size))
          clear hp hb HMG HS2
          rw [← HN.out]
          go_wp2_with fail
          refine ⟨HS3.out, ?_⟩
          clear HS3
          refine wpAnyM_one 10 (by kernel_rfl) rfl ?_
          simp only [List.getElem_toArray, List.getElem_cons_succ, List.getElem_cons_zero]
          intro u1 hS1 hM1
          have HS1 := Lib.hid hS1
          clear hS1 hM1 
          go_wp2_with fail
          refine (runLen_any u1 A0 N c0).mono ?_
          rintro e u2 ⟨rfl, hu2⟩
          have hb := (Below.refl u1.heap.size u1).alloc (Nat.le_refl _) (.cells #[.slice A0 N c0] 28)
          rw [← hu2] at hb
          clear hu2
          have HS2 := Lib.hid (HS1.out.trans (hb.mono HS1.out.size))
          clear hb HS1 
          go_wp2_with fail
          refine ⟨HS2.out, ?_⟩
          clear HS2
          refine wpAnyM_one 12 (by kernel_rfl) rfl ?_
          simp only [List.getElem_toArray, List.getElem_cons_succ, List.getElem_cons_zero]
          intro u1 hS1 hM1
          have HS1 := Lib.hid hS1
          clear hS1 hM1 
          go_wp2_with fail
          refine (runLen_any u1 A10 N c10).mono ?_
          rintro e u2 ⟨rfl, hu2⟩
          have hb := (Below.refl u1.heap.size u1).alloc (Nat.le_refl _) (.cells #[.slice A10 N c10] 28)
          rw [← hu2] at hb
          clear hu2
          have HS2 := Lib.hid (HS1.out.trans (hb.mono HS1.out.size))
          clear hb HS1 
          go_wp2_with fail
          refine ⟨HS2.out, ?_⟩
          clear HS2
          refine wpAnyM_one 13 (by kernel_rfl) rfl ?_
          simp only [List.getElem_toArray, List.getElem_cons_succ, List.getElem_cons_zero]
          intro u1 hS1 hM1
          have HS2 := Lib.hid hS1
          clear hS1 hM1 
          go_wp2_with fail
          refine ⟨HS2.out, ?_⟩
          clear HS2
          refine wpAnyM_one 14 (by kernel_rfl) rfl ?_
          simp only [List.getElem_toArray, List.getElem_cons_succ, List.getElem_cons_zero]
          intro u1 hS1 hM1
          have HS2 := Lib.hid hS1
          clear hS1 hM1 
          go_wp2_with fail
          refine ⟨HS2.out, ?_⟩
          clear HS2
          refine wpAnyM_one 15 (by kernel_rfl) rfl ?_
          simp only [List.getElem_toArray, List.getElem_cons_succ, List.getElem_cons_zero]
          intro u1 hS1 hM1
          have HS2 := Lib.hid hS1
          clear hS1 hM1 
          go_wp2_with fail
          refine ⟨HS2.out, ?_⟩
          clear HS2
          refine wpAnyM_one 16 (by kernel_rfl) rfl ?_
          simp only [List.getElem_toArray, List.getElem_cons_succ, List.getElem_cons_zero]
          intro u2 hS2 hM2
          have hmg := merge_any u2 none 0 0 [] [] ⟨⟨rfl, fun h => absurd h (by omega)⟩, rfl, fun i v ls h => by simp at h⟩ (by intro l hl; simp at hl) (by simp) (by omega)
          have HMG := Lib.hid hmg
          have HS2 := Lib.hid hS2
          clear hmg hS2 hM2
          go_wp2_with fail
          refine HMG.out.mono ?_
          intro e u3 hp
          obtain ⟨A0, c0, rfl, -, -, -, hb⟩ := hp.rp
          have HS3 := Lib.hid (Below.trans HS2.out (hb.mono HS2.out.size))
          clear hp hb HMG HS2
          rw [show (newF ([] : List (List Po)).flatten).length = 0 from rfl]
          go_wp2_with fail
          refine ⟨HS3.out, ?_⟩
          clear HS3
          refine wpAnyM_one 17 (by kernel_rfl) rfl ?_
          simp only [List.getElem_toArray, List.getElem_cons_succ, List.getElem_cons_zero]
          intro u1 hS1 hM1
          have HS1 := Lib.hid hS1
          clear hS1 hM1 
          go_wp2_with fail
          refine (runLen_any u1 A0 0 c0).mono ?_
          rintro e u2 ⟨rfl, hu2⟩
          have hb := (Below.refl u1.heap.size u1).alloc (Nat.le_refl _) (.cells #[.slice A0 0 c0] 28)
          rw [← hu2] at hb
          clear hu2
          have HS2 := Lib.hid (HS1.out.trans (hb.mono HS1.out.size))
          clear hb HS1 
          go_wp2_with fail
          refine ⟨HS2.out, ?_⟩
          clear HS2
          refine wpAnyM_one 18 (by kernel_rfl) rfl ?_
          simp only [List.getElem_toArray, List.getElem_cons_succ, List.getElem_cons_zero]
          intro u1 hS1 hM1
          have HS2 := Lib.hid hS1
          clear hS1 hM1 
          go_wp2_with fail
          refine ⟨HS2.out, ?_⟩
          clear HS2
          refine wpAnyM_one 19 (by kernel_rfl) rfl ?_
          simp only [List.getElem_toArray, List.getElem_cons_succ, List.getElem_cons_zero]
          intro u1 hS1 hM1
          have HS2 := Lib.hid hS1
          clear hS1 hM1 
          go_wp2_with fail
          refine ⟨HS2.out, ?_⟩
          clear HS2
          refine wpAnyM_nil (by kernel_rfl) ?_
          intro V1 hS3 hM3
          have HVn := Lib.hid (HVw.out.trans (hS3.mono HVw.out.size))
          have R1n := Lib.hid (R1.out.below hS3)
          have R2n := Lib.hid (R2.out.below hS3)
          clear HVw R1 R2 hS3 hM3
          refine NoPanic.normal ?_
          obtain ⟨HVw, R1, R2⟩ : Hid (Below w.heap.size w V1) ∧ Hid (RunBox V1 b10 A10 N c10 L) ∧ Hid (RunBox V1 b11 A11 N c11 L) := ⟨HVn, R1n, R2n⟩
          clear HVn R1n R2n
          obtain ⟨V, rfl⟩ : ∃ V, V = V1 := ⟨V1, rfl⟩
          clear h61 h62 h63 hl1 hl2 hl3
          have HVV : Hid (Below V.heap.size V V) := Lib.hid (Below.refl _ _)
          have hkl := keysF_le L
          rw [← HN.out] at hkl
          have gk := rangeAt_blkcell (R1).out.1
          go_wp2_with fail
          refine (keys_any V A10 N c10 L (R1).out.2.1 (by omega)).mono ?_
          rintro e V1 ⟨Ay, cy, rfl, hown1, hb1⟩
          obtain ⟨ky, hky⟩ : ∃ ky, ky = (keysF L).length := ⟨_, rfl⟩
          rw [← hky] at hown1 hkl ⊢
          have HV1 := Lib.hid (And.intro hb1 (own_rv hown1))
          have Hky := Lib.hid hky
          clear hown1 hb1 hky gk
          go_wp2_with fail
          go_loopw [72] (fun s wr => ∃ k : Nat, k ≤ ky ∧ s = .int .i64 (k : Int) ∧ Hid (Below V1.heap.size V1 wr)) (fun s _ => ky - (intOf s).toNat)
          case atStart => exact ⟨0, Nat.zero_le _, rfl, Lib.hid (Below.refl _ _)⟩
          case round =>
            obtain ⟨k, hk, rfl, HK⟩ := hrel
            obtain ⟨W, rfl⟩ : ∃ W, W = wr := ⟨wr, rfl⟩
            have HVW := Lib.hid (HV1.out.1.trans (HK.out.mono HV1.out.1.size))
            by_cases hlt : k < ky
            · obtain ⟨by1, oy, uy, rfl, ey, cy1⟩ := (HV1.out.2.below HK.out).at_ hlt
              rw [List.getElem?_map] at ey
              obtain ⟨key, hkey, rfl⟩ := Option.map_eq_some_iff.1 ey
              unfold Str at cy1
              clear ey hkey
              go_wp2_with fail
              refine wp_region_noPanic ?_
              refine wp_region_movesJ [0, 1, 3, 4] (fun u => Below W.heap.size W u) (fun u u' => Below u.heap.size u u') (fun u => Below.refl _ _) (fun h k => h.trans (k.mono h.size)) (by kernel_rfl) (by kernel_rfl) (by kernel_rfl) (below_drewN (Below.refl _ _) 1) (fun _ _ _ _ _ h => h) ?_
              simp only [List.filterMap, List.getElem?_cons_zero, List.getElem?_cons_succ]
              refine wpMH_loadW (fun u => Below.refl _ _) (by rfl) _ _ rfl b10 0 rfl [.slice A10 N c10] _ (fun u hu => rangeAt_below' (R1).out.1 (Below.trans HVW.out (hu.mono HVW.out.size))) Try.underlying28 rfl (info_run _) ?_
              simp only [Act.put, List.setIfInBounds_toArray, List.set_cons_zero, List.set_cons_succ]
              refine wpMH_moveW (fun u => Below.refl _ _) (by rfl) _ rfl _ rfl ?_
              simp only [Act.put, List.setIfInBounds_toArray, List.set_cons_zero, List.set_cons_succ]
              refine wpMH_loadW (fun u => Below.refl _ _) (by rfl) _ _ rfl b11 0 rfl [.slice A11 N c11] _ (fun u hu => rangeAt_below' (R2).out.1 (Below.trans HVW.out (hu.mono HVW.out.size))) Try.underlying28 rfl (info_run _) ?_
              simp only [Act.put, List.setIfInBounds_toArray, List.set_cons_zero, List.set_cons_succ]
              refine wpMH_moveW (fun u => Below.refl _ _) (by rfl) _ rfl _ rfl ?_
              simp only [Act.put, List.setIfInBounds_toArray, List.set_cons_zero, List.set_cons_succ]
              refine wpMH_nil ?_
              clear cy1
              refine wpAnyM_one 2 (by kernel_rfl) rfl ?_
              simp only [List.getElem_toArray, List.getElem_cons_succ, List.getElem_cons_zero]
              intro u1 hS1 hM1
              have hof := of_any u1 A10 N c10 L (by omega) R1.out.2.2.1 R1.out.2.2.2 Hasc.out key (R1.out.2.1.below (HVW.out.trans (hS1.mono HVW.out.size)))
              have HOF := Lib.hid hof
              have HS1 := Lib.hid hS1
              clear hof hS1 hM1
              go_wp2_with fail
              refine HOF.out.mono ?_
              rintro e u2 ⟨Ao, co, rfl, hown2, hb2⟩
              obtain ⟨U, hU⟩ : ∃ U, U = placesF L key (-9223372036854775808) := ⟨_, rfl⟩
              rw [← hU] at hown2 ⊢
              have hUn : U.length ≤ 1000000 := by
                rw [hU]
                have h5 := fromF_le L key (-9223372036854775808)
                rw [fromF_eq Hasc.out key (-9223372036854775808), ← HN.out] at h5
                have h6 : (placesF L key (-9223372036854775808)).length ≤ N := h5
                omega
              have H2 := Lib.hid (And.intro (Below.trans HS1.out (hb2.mono HS1.out.size)) (own_rv hown2))
              have HU := Lib.hid hU
              clear hown2 hb2 HOF HS1 hU
              go_wp2_with fail
              refine ⟨H2.out.1, ?_⟩
              refine wpAnyM_one 5 (by kernel_rfl) rfl ?_
              simp only [List.getElem_toArray, List.getElem_cons_succ, List.getElem_cons_zero]
              intro u3 hS3 hM3
              have H3 := Lib.hid (And.intro hS3 (H2.out.2.below hM3))
              have hof := of_any u3 A11 N c11 L (by omega) R2.out.2.2.1 R2.out.2.2.2 Hasc.out key (R2.out.2.1.below (HVW.out.trans (hS3.mono HVW.out.size)))
              rw [← HU.out] at hof
              have HOF := Lib.hid hof
              clear hof hS3 hM3 H2
              go_wp2_with fail
              refine HOF.out.mono ?_
              rintro e u4 ⟨Ap, cp, rfl, hown4, hb4⟩
              have H4 := Lib.hid (And.intro (Below.trans H3.out.1 (hb4.mono H3.out.1.size)) (And.intro (H3.out.2.below hb4) (own_rv hown4)))
              clear hown4 hb4 HOF H3
              go_wp2_with fail
              refine ⟨H4.out.1, ?_⟩
              refine wpAnyM_one 6 (by kernel_rfl) rfl ?_
              simp only [List.getElem_toArray, List.getElem_cons_succ, List.getElem_cons_zero]
              intro u5 hS5 hM5
              have hint := ints_any u5 Ao Ap U.length U.length co cp U U (H4.out.2.1.below hM5) (H4.out.2.2.below hM5) hUn hUn
              rw [decide_eq_true rfl] at hint
              have HI := Lib.hid hint
              have HS5 := Lib.hid hS5
              clear hint hS5 hM5 H4
              go_wp2_with fail
              refine HI.out.mono ?_
              rintro e u6 ⟨rfl, q, hq⟩
              have HS6 : Hid (Below W.heap.size W u6) := Lib.hid (by rw [hq]; exact below_drewN HS5.out q)
              clear hq HI HS5
              go_wp2_with fail
              refine ⟨HS6.out, ?_⟩
              refine wpAnyM_one 7 (by kernel_rfl) rfl ?_
              simp only [List.getElem_toArray, List.getElem_cons_succ, List.getElem_cons_zero]
              intro u7 hS7 hM7
              have HS7 := Lib.hid hS7
              clear hS7 hM7 HS6
              go_wp2_with fail
              refine ⟨HS7.out, ?_⟩
              refine wpAnyM_nil (by kernel_rfl) ?_
              intro u8 hS8 hM8
              refine NoPanic.normal ?_
              have HN8 := Lib.hid (HK.out.trans (hS8.mono HK.out.size))
              clear hS8 hM8 HS7
              go_wp2_with fail
              go_roundw
              case rel => exact ⟨k + 1, hlt, by go_num, HN8⟩
              case measure => simp [intOf]; omega
            · obtain rfl : k = ky := by omega
              go_wp2_with fail
              refine wp_region_noPanic ?_
              refine wp_region_movesJ [0, 2] (fun u => Below W.heap.size W u) (fun u u' => Below u.heap.size u u') (fun u => Below.refl _ _) (fun h k => h.trans (k.mono h.size)) (by kernel_rfl) (by kernel_rfl) (by kernel_rfl) (below_drewN (Below.refl _ _) 1) (fun _ _ _ _ _ h => h) ?_
              simp only [List.filterMap, List.getElem?_cons_zero, List.getElem?_cons_succ]
              refine wpMH_loadW (fun u => Below.refl _ _) (by rfl) _ _ rfl b10 0 rfl [.slice A10 N c10] _ (fun u hu => rangeAt_below' (R1).out.1 (Below.trans HVW.out (hu.mono HVW.out.size))) Try.underlying28 rfl (info_run _) ?_
              simp only [Act.put, List.setIfInBounds_toArray, List.set_cons_zero, List.set_cons_succ]
              refine wpMH_loadW (fun u => Below.refl _ _) (by rfl) _ _ rfl b11 0 rfl [.slice A11 N c11] _ (fun u hu => rangeAt_below' (R2).out.1 (Below.trans HVW.out (hu.mono HVW.out.size))) Try.underlying28 rfl (info_run _) ?_
              simp only [Act.put, List.setIfInBounds_toArray, List.set_cons_zero, List.set_cons_succ]
              refine wpMH_nil ?_
              refine wpAnyM_one 1 (by kernel_rfl) rfl ?_
              simp only [List.getElem_toArray, List.getElem_cons_succ, List.getElem_cons_zero]
              intro u1 hS1 hM1
              have hke := keys_any u1 A10 N c10 L (R1.out.2.1.below (HVW.out.trans (hS1.mono HVW.out.size))) (by omega)
              have HKE := Lib.hid hke
              have HS1 := Lib.hid hS1
              clear hke hS1 hM1
              go_wp2_with fail
              refine HKE.out.mono ?_
              rintro e u2 ⟨Ao, co, rfl, hown2, hb2⟩
              rw [← Hky.out] at hown2 ⊢
              have H2 := Lib.hid (And.intro (Below.trans HS1.out (hb2.mono HS1.out.size)) (own_rv hown2))
              clear hown2 hb2 HKE HS1
              go_wp2_with fail
              refine ⟨H2.out.1, ?_⟩
              refine wpAnyM_one 3 (by kernel_rfl) rfl ?_
              simp only [List.getElem_toArray, List.getElem_cons_succ, List.getElem_cons_zero]
              intro u3 hS3 hM3
              have H3 := Lib.hid (And.intro hS3 (H2.out.2.below hM3))
              have hke := keys_any u3 A11 N c11 L (R2.out.2.1.below (HVW.out.trans (hS3.mono HVW.out.size))) (by omega)
              have HKE := Lib.hid hke
              clear hke hS3 hM3 H2
              go_wp2_with fail
              refine HKE.out.mono ?_
              rintro e u4 ⟨Ap, cp, rfl, hown4, hb4⟩
              rw [← Hky.out] at hown4 ⊢
              have H4 := Lib.hid (And.intro (Below.trans H3.out.1 (hb4.mono H3.out.1.size)) (And.intro (H3.out.2.below hb4) (own_rv hown4)))
              clear hown4 hb4 HKE H3
              go_wp2_with fail
              refine ⟨H4.out.1, ?_⟩
              refine wpAnyM_one 4 (by kernel_rfl) rfl ?_
              simp only [List.getElem_toArray, List.getElem_cons_succ, List.getElem_cons_zero]
              intro u5 hS5 hM5
              have htx := texts_any u5 Ao Ap k k co cp (keysF L) (keysF L) (H4.out.2.1.below hM5) (H4.out.2.2.below hM5) (by omega) (by omega)
              rw [decide_eq_true rfl] at htx
              have HI := Lib.hid htx
              have HS5 := Lib.hid hS5
              clear htx hS5 hM5 H4
              go_wp2_with fail
              refine HI.out.mono ?_
              rintro e u6 ⟨rfl, q, hq⟩
              have HS6 : Hid (Below W.heap.size W u6) := Lib.hid (by rw [hq]; exact below_drewN HS5.out q)
              clear hq HI HS5
              go_wp2_with fail
              refine ⟨HS6.out, ?_⟩
              refine wpAnyM_one 5 (by kernel_rfl) rfl ?_
              simp only [List.getElem_toArray, List.getElem_cons_succ, List.getElem_cons_zero]
              intro u7 hS7 hM7
              have HS7 := Lib.hid hS7
              clear hS7 hM7 HS6
              go_wp2_with fail
              refine ⟨HS7.out, ?_⟩
              refine wpAnyM_nil (by kernel_rfl) ?_
              intro u8 hS8 hM8
              refine NoPanic.normal ?_
              have HN8 := Lib.hid (HVw.out.trans ((HVW.out.trans (hS8.mono HVW.out.size)).mono HVw.out.size))
              clear hS8 hM8 HS7
              go_wp2_with fail
              go_ret
              exact ⟨rfl, HN8.out⟩
end Go.Proofs.Ytkfpnilbjjkhgaa
