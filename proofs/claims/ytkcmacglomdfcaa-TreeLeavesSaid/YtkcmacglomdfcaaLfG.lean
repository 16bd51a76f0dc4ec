/-
  THE WALKS of the laws LeafDigests and LeafJoins.
-/
import Derived.Test.YtkcmacglomdfcaaLfF
namespace Go.Proofs.Ytkcmacglomdfcaa
open Go.RowKit

set_option maxRecDepth 100000 in
set_option maxHeartbeats 2000000 in
theorem leafDigests_law (w : World) (v : Value) (b : List UInt8) (hv : SB w v b) (l : List UInt8) (hl : l.length = 32) (r : List UInt8) (hr : r.length = 32) :
    Calls Try.prog 6 #[v, SumV l, SumV r] w fun e w' => e = .returned (.bool true) ∧ Below w.heap.size w w' := by
  obtain ⟨B, m, d, rfl, hd, hdm, hB⟩ := hv
  have hdm' := hdm
  unfold maxLen at hdm
  have hA := alive9_any dig
  have hi1 := info_of l hl
  have hi2 := info_of r hr
  have HX : Hid (∀ (cl cr : List Value), cl = l.map B8 → cr = r.map B8 → ∀ W, W = (w.alloc (.cells cl.toArray 26)).alloc (.cells cr.toArray 26) →
      Below w.heap.size w W ∧ W.rangeAt w.heap.size 0 (l.map B8) ∧ W.rangeAt (w.heap.size + 1) 0 (r.map B8)) := Lib.hid (by
    rintro cl cr rfl rfl W rfl
    exact ⟨((Below.refl _ _).alloc (Nat.le_refl _) _).alloc (by simp) _, World.rangeAt_alloc (rangeAt_at _ _ _ _ _ rfl) _, rangeAt_at _ _ _ _ _ (by simp)⟩)
  have HA := Lib.hid hA
  clear hA
  by_cases hbig : 5000 < m
  · unfold SumV
    go_enter Try.func6, Try.ntmps6
    go_wp2_with (go_at_call 30; refine (HA.out _).mono ?_; rintro e w1 ⟨rfl, hb1⟩)
    go_ret
    exact ⟨rfl, bel2 hb1⟩
  · have hlen := hB.len
    have hLeaf := leaf_any dig
    have hRLeaf := refleaf_any dig
    have hNode := fun w => node_any dig w l r hl hr
    have hRNode := fun w => refnode_any dig w l r hl hr
    have hEmpty := empty_any dig
    have hRef := fun w => dig.ref w none 0 0 [] (RB.nil _ _) (by omega)
    have hn1 : (nodeF (digest32 K32 H32) l r).length = 32 := dig.len _
    have hn2 := dig.len (0 :: b)
    have hn3 := dig.len []
    have h1 : ∀ (w : World) (A : Option Addr) (n c : Nat), RB w A n b → n ≤ c → c ≤ maxLen → n ≤ 1000000 → _ := fun w A n c => hLeaf w A n c b
    have h2 : ∀ (w : World) (A : Option Addr) (n c : Nat), RB w A n b → n ≤ 1000000 → _ := fun w A n c => hRLeaf w A n c b
    clear hLeaf hRLeaf
    generalize nodeF (digest32 K32 H32) l r = D1 at hNode hRNode hn1
    generalize digest32 K32 H32 (0 :: b) = D2 at h1 h2 hn2
    generalize digest32 K32 H32 [] = D3 at hEmpty hRef hn3
    unfold SumV at hNode hRNode hEmpty h1 h2 ⊢
    have e1 := fun w => run_eql_sum w D1 D1 hn1 hn1
    have e2 := fun w => run_eql_sum w D2 D2 hn2 hn2
    have e3 := fun w => run_eql_sum w D3 D3 hn3 hn3
    rw [beq_self_eq_true] at e1 e2 e3
    have H1 := Lib.hid h1
    have H2 := Lib.hid h2
    have HN := Lib.hid hNode
    have HRN := Lib.hid hRNode
    have HE := Lib.hid hEmpty
    have HR := Lib.hid hRef
    have Hlen := Lib.hid hlen
    clear h1 h2 hNode hRNode hEmpty hRef hlen hn1 hn2 hn3
    go_enter Try.func6, Try.ntmps6
    go_wp2_with (go_at_call 30; refine (HA.out _).mono ?_; rintro e w1 ⟨rfl, hb1⟩)
    obtain ⟨hb0, hla, hra⟩ := HX.out _ _ rfl rfl _ rfl
    have hb01 := hb0.trans (hb1.mono hb0.size)
    have hla1 := rangeAt_below' hla hb1
    have hra1 := rangeAt_below' hra hb1
    clear HX hb0 hla hra hb1
    refine (copy_any _ B m d b (hB.below hb01) (by omega)).mono ?_
    rintro e w2 ⟨g, rfl, hg, hcur, hb2⟩
    have hb02 : Below w.heap.size w w2 := hb01.trans (hb2.mono hb01.size)
    have hla2 := rangeAt_below' hla1 hb2
    have hra2 := rangeAt_below' hra1 hb2
    have hB2 := hB.below hb02
    have hC2 : RB w2 (some ⟨g, 0, none⟩) m b := RV.of_rangeAt (rangeAt_left (rangeAt_blk hcur.out)) (by rw [List.length_map, Hlen.out])
    obtain ⟨S, hS⟩ : ∃ S : World → Prop, S = fun u => Below w2.heap.size w2 u := ⟨_, rfl⟩
    have Sx : ∀ u, S u → Below w2.heap.size w2 u := by rw [hS]; exact fun _ h => h
    have Sb : ∀ u u', S u → Below u.heap.size u u' → S u' := by rw [hS]; exact fun u u' h hb => h.trans (hb.mono h.size)
    have Sd : S w2.drew := by rw [hS]; exact below_drewN (Below.refl _ _) 1
    have hne : Nonempty (InC S) := ⟨⟨_, Sd⟩⟩
    have FA : ∀ y : InC S, y.w.rangeAt w.heap.size 0 (l.map B8) := fun y => rangeAt_below' hla2 (Sx _ y.ok)
    have FB : ∀ y : InC S, y.w.rangeAt (w.heap.size + 1) 0 (r.map B8) := fun y => rangeAt_below' hra2 (Sx _ y.ok)
    have C1 : Hid (∀ y : InC S, Calls Try.prog 31 #[.slice (some ⟨g, 0, none⟩) m (m + 2)] y.w fun e w' => e = .returned (.agg (D2.map B8).toArray) ∧ ∃ z : InC S, w' = z.w) := Lib.hid fun y =>
      (H1.out y.w _ m (m + 2) (hC2.below (Sx _ y.ok)) (by omega) (by unfold maxLen; omega) (by omega)).mono fun e w' ⟨h1, h2⟩ => ⟨h1, ⟨w', Sb _ _ y.ok h2⟩, rfl⟩
    have C2 : Hid (∀ y : InC S, Calls Try.prog 32 #[.slice B m d] y.w fun e w' => e = .returned (.agg (D2.map B8).toArray) ∧ ∃ z : InC S, w' = z.w) := Lib.hid fun y =>
      (H2.out y.w _ m d (hB2.below (Sx _ y.ok)) (by omega)).mono fun e w' ⟨h1, h2⟩ => ⟨h1, ⟨w', Sb _ _ y.ok h2⟩, rfl⟩
    have C3 : Hid (∀ y : InC S, Calls Try.prog 33 #[.agg (l.map B8).toArray, .agg (r.map B8).toArray] y.w fun e w' => e = .returned (.agg (D1.map B8).toArray) ∧ ∃ z : InC S, w' = z.w) := Lib.hid fun y =>
      (HN.out y.w).mono fun e w' ⟨h1, h2⟩ => ⟨h1, ⟨w', Sb _ _ y.ok h2⟩, rfl⟩
    have C4 : Hid (∀ y : InC S, Calls Try.prog 34 #[.agg (l.map B8).toArray, .agg (r.map B8).toArray] y.w fun e w' => e = .returned (.agg (D1.map B8).toArray) ∧ ∃ z : InC S, w' = z.w) := Lib.hid fun y =>
      (HRN.out y.w).mono fun e w' ⟨h1, h2⟩ => ⟨h1, ⟨w', Sb _ _ y.ok h2⟩, rfl⟩
    have C5 : Hid (∀ y : InC S, Calls Try.prog 35 #[] y.w fun e w' => e = .returned (.agg (D3.map B8).toArray) ∧ ∃ z : InC S, w' = z.w) := Lib.hid fun y =>
      (HE.out y.w).mono fun e w' ⟨h1, h2⟩ => ⟨h1, ⟨w', Sb _ _ y.ok h2⟩, rfl⟩
    have C6 : Hid (∀ y : InC S, Calls Try.prog 26 #[.slice none 0 0] y.w fun e w' => e = .returned (.agg (D3.map B8).toArray) ∧ ∃ z : InC S, w' = z.w) := Lib.hid fun y =>
      (HR.out y.w).mono fun e w' ⟨h1, h2⟩ => ⟨h1, ⟨w', Sb _ _ y.ok h2⟩, rfl⟩
    have C7 : Hid (∀ y : InC S, Calls Try.prog 27 #[.slice (some ⟨g, 0, none⟩) m (m + 2), .slice B m d] y.w fun e w' => e = .returned (.bool true) ∧ ∃ z : InC S, w' = z.w) := Lib.hid fun y =>
      (kept_true y.w g B m d b (heap_below hcur.out (Sx _ y.ok)) (hB2.below (Sx _ y.ok)) (by omega)).mono fun e w' ⟨h1, h2⟩ => ⟨h1, y, h2.symm⟩
    have HSx := Lib.hid Sx
    have HSd := Lib.hid Sd
    have Hb02 := Lib.hid hb02
    clear hS Sx Sb Sd hla1 hra1 hla2 hra2 hB2 hC2 hb01 hb02 hb2 hcur hg hB
    go_wp2_with fail
    refine wp_region_quietIn S (by kernel_rfl) (by kernel_rfl) HSd.out ?_
    repeat (first
      | ((with_reducible show wpQuiet _ _ _ _ (⟨_, Op.load 26 (.tmp 4), _, _, _, _⟩ :: _) _); refine wpQuiet_load_mid rfl _ _ rfl w.heap.size 0 rfl (l.map B8) _ FA Try.underlying26 rfl hi1 ?_; simp only [Act.put, List.setIfInBounds_toArray, List.set_cons_zero, List.set_cons_succ])
      | ((with_reducible show wpQuiet _ _ _ _ (⟨_, Op.load 26 (.tmp 5), _, _, _, _⟩ :: _) _); refine wpQuiet_load_mid rfl _ _ rfl (w.heap.size + 1) 0 rfl (r.map B8) _ FB Try.underlying26 rfl hi2 ?_; simp only [Act.put, List.setIfInBounds_toArray, List.set_cons_zero, List.set_cons_succ])
      | go_big_quiet_step (first
        | (go_at_call 31; with_reducible exact C1.out _)
        | (go_at_call 32; with_reducible exact C2.out _)
        | (go_at_call 33; with_reducible exact C3.out _)
        | (go_at_call 34; with_reducible exact C4.out _)
        | (go_at_call 35; with_reducible exact C5.out _)
        | (go_at_call 26; with_reducible exact C6.out _)
        | (go_at_call 27; with_reducible exact C7.out _)))
    refine wpQuiet_nil ?_
    rintro _ ⟨z, rfl⟩
    have hbz := Hb02.out.trans ((HSx.out _ z.ok).mono Hb02.out.size)
    clear FA FB hne
    go_wp2_with fail
    go_ret
    exact ⟨rfl, hbz⟩
/-- A class of worlds above one world. -/
structure Up (S : World → Prop) (w0 : World) : Prop where
  sx : ∀ u, S u → Below w0.heap.size w0 u
  sb : ∀ u u', S u → Below u.heap.size u u' → S u'
  s0 : S w0
theorem up_of (w0 : World) : ∃ S, Up S w0 := ⟨fun u => Below w0.heap.size w0 u, fun _ h => h, fun _ _ h hb => h.trans (hb.mono h.size), Below.refl _ _⟩
/-- A contract, in the class. -/
theorem Up.calls {S : World → Prop} {w0 : World} (h : Up S w0) {f : FuncId} {args : Array Value} {v : Value} (y : InC S) (hc : Calls Try.prog f args y.w fun e w' => e = .returned v ∧ Below y.w.heap.size y.w w') :
    Calls Try.prog f args y.w fun e w' => e = .returned v ∧ ∃ z : InC S, w' = z.w := hc.mono fun _ w' ⟨h1, h2⟩ => ⟨h1, ⟨w', h.sb _ _ y.ok h2⟩, rfl⟩
set_option maxRecDepth 100000 in
set_option maxHeartbeats 2000000 in
theorem leafJoins_law (w : World) (v : Value) (ls : List (List UInt8)) (hv : SS w v ls) : Calls Try.prog 10 #[v] w fun e w' => e = .returned (.bool true) ∧ Below w.heap.size w w' := by
  obtain ⟨A, n, c, rfl, hnc, hcm, hr⟩ := hv
  have hcm' := hcm
  unfold maxLen at hcm
  have hA := alive9_any dig
  have hP := root_any dig
  have hE := empty_any dig
  have hN := node_any dig
  have hFn := dig.len
  have hFl := fun ls => rootF_len dig.len _ ls rfl
  generalize digest32 K32 H32 = F at hP hE hN hFl hFn
  have HA := Lib.hid hA
  have HP := Lib.hid hP
  have HE := Lib.hid hE
  have HN := Lib.hid hN
  have HFl := Lib.hid hFl
  have HFn := Lib.hid hFn
  have hlen := hr.len
  clear hA hP hE hN hFl hFn
  by_cases hbig : 200 < n
  · clear hlen
    go_enter Try.func10, Try.ntmps10
    go_wp2_with (go_at_call 30; refine (HA.out _).mono ?_; rintro e w1 ⟨rfl, hb1⟩)
    go_ret
    exact ⟨rfl, hb1⟩
  · by_cases h0 : n = 0
    · subst h0
      have hls : ls = [] := List.eq_nil_of_length_eq_zero hlen
      subst hls
      have hx := HFn.out []
      have hP0 := fun w hr => HP.out w A 0 c [] hr (by omega)
      rw [rootF_nil] at hP0
      have hE0 := HE.out
      generalize F [] = D at hx hP0 hE0
      unfold SumV at hP0 hE0
      have he := fun w => run_eql_sum w D D hx hx
      rw [beq_self_eq_true] at he
      have HP0 := Lib.hid hP0
      have HE0 := Lib.hid hE0
      clear hlen hP0 hE0
      go_enter Try.func10, Try.ntmps10
      go_wp2_with (go_at_call 30; refine (HA.out _).mono ?_; rintro e w1 ⟨rfl, hb1⟩)
      obtain ⟨S, hS⟩ := up_of w1
      have hne : Nonempty (InC S) := ⟨⟨_, hS.s0⟩⟩
      have C1 : Hid (∀ y : InC S, Calls Try.prog 38 #[.slice A 0 c] y.w fun e w' => e = .returned (.agg (D.map B8).toArray) ∧ ∃ z : InC S, w' = z.w) := Lib.hid fun y => hS.calls y (HP0.out _ (RS.nil _ _))
      have C2 : Hid (∀ y : InC S, Calls Try.prog 35 #[] y.w fun e w' => e = .returned (.agg (D.map B8).toArray) ∧ ∃ z : InC S, w' = z.w) := Lib.hid fun y => hS.calls y (HE0.out _)
      have HU := Lib.hid hS
      clear hS
      refine wp_region_quietIn S (by kernel_rfl) (by kernel_rfl) (HU.out.sb _ _ HU.out.s0 (below_drewN (Below.refl _ _) 1)) ?_
      repeat (go_big_quiet_step (first
        | (go_at_call 38; with_reducible exact C1.out _)
        | (go_at_call 35; with_reducible exact C2.out _)))
      refine wpQuiet_nil ?_
      rintro _ ⟨z, rfl⟩
      have hbz := hb1.trans ((HU.out.sx _ z.ok).mono hb1.size)
      clear hne
      go_wp2_with fail
      go_ret
      exact ⟨rfl, hbz⟩
    · by_cases h1 : n = 1
      · subst h1
        obtain ⟨b, o, x, rfl, hx, hx32, hrx⟩ := hr.at_ (i := 0) (by omega)
        have hls : ls = [x] := by
          match ls, hlen, hx with
          | [y], _, hx => simp at hx; rw [hx]
        subst hls
        have hP0 := fun w hr => HP.out w (some ⟨b, o, none⟩) 1 c [x] hr (by omega)
        rw [rootF_one] at hP0
        unfold SumV at hP0
        have he := fun w => run_eql_sum w x x hx32 hx32
        rw [beq_self_eq_true] at he
        have hi := info_of x hx32
        have HP0 := Lib.hid hP0
        clear hlen hP0 hx h0
        go_enter Try.func10, Try.ntmps10
        go_wp2_with (go_at_call 30; refine (HA.out _).mono ?_; rintro e w1 ⟨rfl, hb1⟩)
        have hr1 := hr.below hb1
        have hx1 := rangeAt_below' hrx hb1
        obtain ⟨S, hS⟩ := up_of w1
        have hne : Nonempty (InC S) := ⟨⟨_, hS.s0⟩⟩
        have FA : ∀ y : InC S, y.w.rangeAt b o (x.map B8) := fun y => by
          have h := rangeAt_below' hx1 (hS.sx _ y.ok)
          simpa using h
        have C1 : Hid (∀ y : InC S, Calls Try.prog 38 #[.slice (some ⟨b, o, none⟩) 1 c] y.w fun e w' => e = .returned (.agg (x.map B8).toArray) ∧ ∃ z : InC S, w' = z.w) := Lib.hid fun y => hS.calls y (HP0.out _ (hr1.below (hS.sx _ y.ok)))
        have HU := Lib.hid hS
        clear hS hr hr1 hx1 hrx
        refine wp_region_quietIn S (by kernel_rfl) (by kernel_rfl) (HU.out.sb _ _ HU.out.s0 (below_drewN (Below.refl _ _) 1)) ?_
        repeat (first
          | ((with_reducible show wpQuiet _ _ _ _ (⟨_, Op.load 26 _, _, _, _, _⟩ :: _) _); refine wpQuiet_load_mid rfl _ _ rfl b o rfl (x.map B8) _ FA Try.underlying26 rfl hi ?_; simp only [Act.put, List.setIfInBounds_toArray, List.set_cons_zero, List.set_cons_succ])
          | go_big_quiet_step (first
            | (go_at_call 38; with_reducible exact C1.out _)))
        refine wpQuiet_nil ?_
        rintro _ ⟨z, rfl⟩
        have hbz := hb1.trans ((HU.out.sx _ z.ok).mono hb1.size)
        clear hne FA
        go_wp2_with fail
        go_ret
        exact ⟨rfl, hbz⟩
      · have h2 : 2 ≤ ls.length := by omega
        have hk1 := cutN_lt h2
        have hk2 := cutN_pos h2
        have hk3 := cutN_half h2
        obtain ⟨k, hk⟩ : ∃ k, k = cutN ls.length := ⟨_, rfl⟩
        have hcut : cutN n = k := by rw [hk, hlen]
        rw [← hk] at hk1 hk2 hk3
        have hl32 := hr.2.1
        have hD := rootF_two (F := F) h2
        rw [← hk] at hD
        have hP0 := fun w hr => HP.out w A n c ls hr (by omega)
        have hP1 := fun w hr => HP.out w A k c (ls.take k) hr (by omega)
        have hP2 := fun w A2 c2 hr => HP.out w A2 (n - k) c2 (ls.drop k) hr (by omega)
        have hd1 := HFl.out (ls.take k) (fun x hx => hl32 x (List.mem_of_mem_take hx))
        have hd2 := HFl.out (ls.drop k) (fun x hx => hl32 x (List.mem_of_mem_drop hx))
        have hNn := fun w => HN.out w (rootF F (ls.take k)) (rootF F (ls.drop k)) hd1 hd2
        have hd3 := HFn.out (1 :: (rootF F (ls.take k) ++ rootF F (ls.drop k)))
        rw [show F (1 :: (rootF F (ls.take k) ++ rootF F (ls.drop k))) = nodeF F (rootF F (ls.take k)) (rootF F (ls.drop k)) from rfl] at hd3
        rw [hD] at hP0
        generalize nodeF F (rootF F (ls.take k)) (rootF F (ls.drop k)) = D at hP0 hNn hd3
        generalize rootF F (ls.take k) = l1 at hP1 hNn
        generalize rootF F (ls.drop k) = l2 at hP2 hNn
        unfold SumV at hP0 hP1 hP2 hNn
        obtain ⟨b, o, hAb, -⟩ := hr.2.2 (by omega)
        subst hAb
        have he := fun w => run_eql_sum w D D hd3 hd3
        rw [beq_self_eq_true] at he
        have hcutc := fun w => cut_any w (n : Int) (by omega) (by omega)
        rw [Int.toNat_natCast, hcut] at hcutc
        obtain ⟨k2, hk22⟩ : ∃ k2, k2 = 2 * k := ⟨_, rfl⟩
        have ek : 2 * (k : Int) = (k2 : Int) := by omega
        have b1 : k2 ≤ 1000 := by omega
        have b2 : n ≤ k2 := by omega
        have b3 : k < n := by omega
        have b4 : k ≤ c := by omega
        have d1 : decide ((k : Int) < (n : Int)) = true := decide_eq_true (by omega)
        have d2 : decide ((n : Int) ≤ (k2 : Int)) = true := decide_eq_true (by omega)
        have HP0 := Lib.hid hP0
        have HP1 := Lib.hid hP1
        have HP2 := Lib.hid hP2
        have HNn := Lib.hid hNn
        have Hcut := Lib.hid hcutc
        clear hlen hP0 hP1 hP2 hNn hcutc hcut hk hk1 hk2 hk3 hk22 hD hd1 hd2 hd3 h2 hl32 h0 h1
        go_enter Try.func10, Try.ntmps10
        go_wp2_with (first
          | (go_at_call 30; refine (HA.out _).mono ?_; rintro e w1 ⟨rfl, hb1⟩)
          | (go_at_call 36; refine (Hcut.out _).mono ?_; rintro e w2 ⟨rfl, rfl⟩))
        have hr1 := hr.below hb1
        obtain ⟨S, hS⟩ := up_of w1
        have hne : Nonempty (InC S) := ⟨⟨_, hS.s0⟩⟩
        have C1 : Hid (∀ y : InC S, Calls Try.prog 38 #[.slice (some ⟨b, o, none⟩) n c] y.w fun e w' => e = .returned (.agg (D.map B8).toArray) ∧ ∃ z : InC S, w' = z.w) := Lib.hid fun y => hS.calls y (HP0.out _ (hr1.below (hS.sx _ y.ok)))
        have C2 : Hid (∀ y : InC S, Calls Try.prog 38 #[.slice (some ⟨b, o, none⟩) k c] y.w fun e w' => e = .returned (.agg (l1.map B8).toArray) ∧ ∃ z : InC S, w' = z.w) := Lib.hid fun y => hS.calls y (HP1.out _ ((hr1.below (hS.sx _ y.ok)).take (by omega)))
        have C3 : Hid (∀ y : InC S, Calls Try.prog 38 #[.slice (some ⟨b, o + k * 32, none⟩) (n - k) (c - k)] y.w fun e w' => e = .returned (.agg (l2.map B8).toArray) ∧ ∃ z : InC S, w' = z.w) := Lib.hid fun y => by
          have hcut := (hr1.below (hS.sx _ y.ok)).cut (k := k) (cap := c) (by omega) hnc
          rw [if_neg (by omega), Option.map_some, Addr.add_mid] at hcut
          exact hS.calls y (HP2.out _ _ _ hcut)
        have C4 : Hid (∀ y : InC S, Calls Try.prog 33 #[.agg (l1.map B8).toArray, .agg (l2.map B8).toArray] y.w fun e w' => e = .returned (.agg (D.map B8).toArray) ∧ ∃ z : InC S, w' = z.w) := Lib.hid fun y => hS.calls y (HNn.out _)
        have HU := Lib.hid hS
        clear hS hr hr1
        go_wp2_with fail
        refine wp_region_quietIn S (by kernel_rfl) (by kernel_rfl) (HU.out.sb _ _ HU.out.s0 (below_drewN (Below.refl _ _) 1)) ?_
        repeat (go_big_quiet_step (first
          | (go_at_call 38; with_reducible exact C1.out _)
          | (go_at_call 38; with_reducible exact C2.out _)
          | (go_at_call 38; with_reducible exact C3.out _)
          | (go_at_call 33; with_reducible exact C4.out _)))
        refine wpQuiet_nil ?_
        rintro _ ⟨z, rfl⟩
        have hbz := hb1.trans ((HU.out.sx _ z.ok).mono hb1.size)
        clear hne
        go_wp2_with fail
        go_ret
        exact ⟨rfl, hbz⟩
end Go.Proofs.Ytkcmacglomdfcaa
