/-
  THE WALK of the law ProofCome.
-/
import Derived.Test.YtkcmacglomdfcaaPgA
namespace Go.Proofs.Ytkcmacglomdfcaa
open Go.RowKit

/-- In comes: the leaf's digest and the root in their variables. -/
structure ComF (w : World) (d r : Dg) (u : World) : Prop where
  below : Below w.heap.size w u
  r0 : u.rangeAt w.heap.size 0 (d.map B8)
  r1 : u.rangeAt (w.heap.size + 1) 0 (r.map B8)
theorem ComF.stable {w u u' : World} {d r : Dg} (h : ComF w d r u) (hb : Below u.heap.size u u') : ComF w d r u' := ⟨h.below.trans (hb.mono h.below.size), rangeAt_below' h.r0 hb, rangeAt_below' h.r1 hb⟩
theorem ComF.mk1 {w W u : World} {d r : Dg} (h : Below w.heap.size w W ∧ W.rangeAt w.heap.size 0 (d.map B8) ∧ W.rangeAt (w.heap.size + 1) 0 (r.map B8)) (hb : Below W.heap.size W u) : ComF w d r u :=
  (⟨h.1, h.2.1, h.2.2⟩ : ComF w d r W).stable hb
theorem two_boxes (w : World) (d r : Dg) : Hid (∀ (cl cr : List Value), cl = d.map B8 → cr = r.map B8 → ∀ W, W = (w.alloc (.cells cl.toArray 26)).alloc (.cells cr.toArray 26) →
    Below w.heap.size w W ∧ W.rangeAt w.heap.size 0 (d.map B8) ∧ W.rangeAt (w.heap.size + 1) 0 (r.map B8)) := Lib.hid (by
  rintro cl cr rfl rfl W rfl
  exact ⟨((Below.refl _ _).alloc (Nat.le_refl _) _).alloc (by simp) _, World.rangeAt_alloc (rangeAt_at _ _ _ _ _ rfl) _, rangeAt_at _ _ _ _ _ (by simp)⟩)
theorem zero_eql (w : World) : (binOp .eql 26 (.agg (zero32.map B8).toArray) (.agg #[.int .u8 0, .int .u8 0, .int .u8 0, .int .u8 0, .int .u8 0, .int .u8 0, .int .u8 0, .int .u8 0, .int .u8 0, .int .u8 0, .int .u8 0, .int .u8 0, .int .u8 0, .int .u8 0, .int .u8 0, .int .u8 0, .int .u8 0, .int .u8 0, .int .u8 0, .int .u8 0, .int .u8 0, .int .u8 0, .int .u8 0, .int .u8 0, .int .u8 0, .int .u8 0, .int .u8 0, .int .u8 0, .int .u8 0, .int .u8 0, .int .u8 0, .int .u8 0])).run Try.prog w = .ok (.bool true) w := by
  have h := run_eql_sum w zero32 zero32 rfl rfl
  rw [beq_self_eq_true] at h
  exact h
section
variable (w : World) (d r : Dg) (hd : d.length = 32) (hr : r.length = 32) (A : Option Addr) (m c : Nat)
include hd hr
omit hd hr in
set_option maxRecDepth 100000 in
set_option maxHeartbeats 2000000 in
theorem comes_big (i n : Int) (hm : 100 < m) : Calls Try.prog 64 #[SumV d, .int .i64 i, .int .i64 n, .slice A m c, SumV r] w fun e w' => e = .returned (.bool true) ∧ Below w.heap.size w w' := by
  have HA := Lib.hid alive10_any
  have db : decide ((100 : Int) < (m : Int)) = true := decide_eq_true (by omega)
  have HX := two_boxes w d r
  unfold SumV
  go_enter Try.func64, Try.ntmps64
  go_wp2_with fail
  refine (HA.out _).mono ?_
  rintro e w1 ⟨rfl, hb1⟩
  have H1 := Lib.hid (ComF.mk1 (HX.out _ _ rfl rfl _ rfl) hb1)
  clear hb1
  go_wp2_with fail
  go_ret
  exact ⟨rfl, H1.out.below⟩
set_option maxRecDepth 100000 in
set_option maxHeartbeats 4000000 in
theorem comes_range (i n : Int) (hm : ¬ 100 < m) (h : ¬ (1 ≤ n ∧ n ≤ 1048576 ∧ 0 ≤ i ∧ i < n)) : Calls Try.prog 64 #[SumV d, .int .i64 i, .int .i64 n, .slice A m c, SumV r] w fun e w' => e = .returned (.bool true) ∧ Below w.heap.size w w' := by
  have HA := Lib.hid alive10_any
  have db : decide ((100 : Int) < (m : Int)) = false := decide_eq_false (by omega)
  have HX := two_boxes w d r
  obtain ⟨g, hge⟩ : ∃ g, g = zero32 := ⟨_, rfl⟩
  have hg : g.length = 32 := by rw [hge]; rfl
  have HC : Hid (∀ u, Below w.heap.size w u → Calls Try.prog 90 #[.agg (d.map B8).toArray, .int .i64 i, .int .i64 n, .slice A m c] u fun e w' => e = .returned (.tuple #[.agg (g.map B8).toArray, errV 2]) ∧ Below u.heap.size u w') := Lib.hid fun u _ => by rw [hge]; exact come_range u d i n h _
  have HH : Hid (∀ u, Below w.heap.size w u → Calls Try.prog 62 #[.agg (d.map B8).toArray, .int .i64 i, .int .i64 n, .slice A m c, .agg (r.map B8).toArray] u fun e w' => e = .returned (.bool false) ∧ Below u.heap.size u w') := Lib.hid fun u _ =>
    holds_of u d r zero32 hd hr rfl i n _ (errV 2) (fun u' _ => come_range u' d i n h _) false (.inr ⟨2, rfl, rfl⟩)
  have HL : Hid (∀ u, Calls Try.prog 63 #[.int .i64 i, .int .i64 n] u fun e w' => e = .returned (.int .i64 (-1)) ∧ u = w') := Lib.hid fun u => length_no u i n h
  have his := fun w => is_err w 2 2 (by decide)
  have His := Lib.hid his
  have he0 := zero_eql
  rw [← hge] at he0
  have Hg := Lib.hid hg
  have hid := info_of d hd
  have hir := info_of r hr
  have hig := info_of g hg
  have hig' := info_of' g hg
  have Hge := Lib.hid hge
  have Hh := Lib.hid h
  clear his hg hd hr hge h
  unfold SumV
  go_enter Try.func64, Try.ntmps64
  go_wp2_with fail
  refine (HA.out _).mono ?_
  rintro e w1 ⟨rfl, hb1⟩
  have H1 := Lib.hid (ComF.mk1 (HX.out _ _ rfl rfl _ rfl) hb1)
  clear hb1
  go_wp2_with ((with_reducible show wpList _ _ _ (⟨_, Op.load 26 (.tmp 5), _, _, _, _⟩ :: _) _ _); refine wpList_load_mid rfl _ _ rfl w.heap.size 0 rfl (d.map B8) _ H1.out.r0 Try.underlying26 rfl hid ?_; simp only [Act.put, List.setIfInBounds_toArray, List.set_cons_zero, List.set_cons_succ])
  refine (HC.out _ H1.out.below).mono ?_
  rintro e w2 ⟨rfl, hb2⟩
  have H2 := Lib.hid (H1.out.stable hb2)
  clear hb2
  go_wp2_with (first
    | ((with_reducible show wpList _ _ _ (⟨_, Op.store 26 (.tmp 11) _, _, _, _, _⟩ :: _) _ _); refine wpList_store_row rfl _ _ _ rfl w2.heap.size 0 (g.map B8).toArray rfl rfl (there_new' _ _ _ (by simp [Hg.out])) hig' (b8_all g) ?_; intro w3 hg3 hs3 ht3 hth3; rw [List.toList_toArray] at ht3; have hb3 : Below w2.heap.size w2 w3 := ((Below.refl _ _).alloc (Nat.le_refl _) _).grown hg3 (by simp) (by intro k hk; cases hk; exact Nat.le_refl _); have H3 := Lib.hid (And.intro (H2.out.stable hb3) ht3); clear hg3 hs3 hth3 hb3)
    | ((with_reducible show wpList _ _ _ (⟨_, Op.load 26 (.tmp 5), _, _, _, _⟩ :: _) _ _); refine wpList_load_mid rfl _ _ rfl w.heap.size 0 rfl (d.map B8) _ H3.out.1.r0 Try.underlying26 rfl hid ?_; simp only [Act.put, List.setIfInBounds_toArray, List.set_cons_zero, List.set_cons_succ])
    | ((with_reducible show wpList _ _ _ (⟨_, Op.load 26 (.tmp 9), _, _, _, _⟩ :: _) _ _); refine wpList_load_mid rfl _ _ rfl (w.heap.size + 1) 0 rfl (r.map B8) _ H3.out.1.r1 Try.underlying26 rfl hir ?_; simp only [Act.put, List.setIfInBounds_toArray, List.set_cons_zero, List.set_cons_succ]))
  refine (HH.out _ H3.out.1.below).mono ?_
  rintro e w4 ⟨rfl, hb4⟩
  have H4 := Lib.hid (And.intro (H3.out.1.stable hb4) (rangeAt_below' H3.out.2 hb4))
  clear hb4 H3 H2 H1
  by_cases q1 : n < 1
  · have e1 : decide (n < 1) = true := decide_eq_true q1
    go_wp2_with (first | (go_at_call 46; refine (His.out _).mono ?_; rintro e w5 ⟨rfl, rfl⟩) | ((with_reducible show wpList _ _ _ (⟨_, Op.load 26 (.tmp 11), _, _, _, _⟩ :: _) _ _); refine wpList_load_midW rfl _ _ rfl w2.heap.size 0 rfl (g.map B8) _ H4.out.2 Try.underlying26 rfl hig ?_; simp only [Act.put, List.setIfInBounds_toArray, List.set_cons_zero, List.set_cons_succ]) | (go_at_call 63; refine (HL.out _).mono ?_; rintro e w6 ⟨rfl, rfl⟩))
    go_ret
    exact ⟨rfl, H4.out.1.below⟩
  · have e1 : decide (n < 1) = false := decide_eq_false q1
    by_cases q2 : 1048576 < n
    · have e2 : decide (1048576 < n) = true := decide_eq_true q2
      go_wp2_with (first | (go_at_call 46; refine (His.out _).mono ?_; rintro e w5 ⟨rfl, rfl⟩) | ((with_reducible show wpList _ _ _ (⟨_, Op.load 26 (.tmp 11), _, _, _, _⟩ :: _) _ _); refine wpList_load_midW rfl _ _ rfl w2.heap.size 0 rfl (g.map B8) _ H4.out.2 Try.underlying26 rfl hig ?_; simp only [Act.put, List.setIfInBounds_toArray, List.set_cons_zero, List.set_cons_succ]) | (go_at_call 63; refine (HL.out _).mono ?_; rintro e w6 ⟨rfl, rfl⟩))
      go_ret
      exact ⟨rfl, H4.out.1.below⟩
    · have e2 : decide (1048576 < n) = false := decide_eq_false q2
      by_cases q3 : i < 0
      · have e3 : decide (i < 0) = true := decide_eq_true q3
        go_wp2_with (first | (go_at_call 46; refine (His.out _).mono ?_; rintro e w5 ⟨rfl, rfl⟩) | ((with_reducible show wpList _ _ _ (⟨_, Op.load 26 (.tmp 11), _, _, _, _⟩ :: _) _ _); refine wpList_load_midW rfl _ _ rfl w2.heap.size 0 rfl (g.map B8) _ H4.out.2 Try.underlying26 rfl hig ?_; simp only [Act.put, List.setIfInBounds_toArray, List.set_cons_zero, List.set_cons_succ]) | (go_at_call 63; refine (HL.out _).mono ?_; rintro e w6 ⟨rfl, rfl⟩))
        go_ret
        exact ⟨rfl, H4.out.1.below⟩
      · have e3 : decide (i < 0) = false := decide_eq_false q3
        have e4 : decide (n ≤ i) = true := decide_eq_true (by have := Hh.out; omega)
        go_wp2_with (first | (go_at_call 46; refine (His.out _).mono ?_; rintro e w5 ⟨rfl, rfl⟩) | ((with_reducible show wpList _ _ _ (⟨_, Op.load 26 (.tmp 11), _, _, _, _⟩ :: _) _ _); refine wpList_load_midW rfl _ _ rfl w2.heap.size 0 rfl (g.map B8) _ H4.out.2 Try.underlying26 rfl hig ?_; simp only [Act.put, List.setIfInBounds_toArray, List.set_cons_zero, List.set_cons_succ]) | (go_at_call 63; refine (HL.out _).mono ?_; rintro e w6 ⟨rfl, rfl⟩))
        go_ret
        exact ⟨rfl, H4.out.1.below⟩
set_option maxRecDepth 100000 in
set_option maxHeartbeats 4000000 in
theorem comes_len (i n : Nat) (hi : i < n) (hn : n ≤ 1048576) (hm : ¬ 100 < m) (hne : m ≠ (turns i n).length) : Calls Try.prog 64 #[SumV d, .int .i64 (i : Int), .int .i64 (n : Int), .slice A m c, SumV r] w fun e w' => e = .returned (.bool true) ∧ Below w.heap.size w w' := by
  have HA := Lib.hid alive10_any
  have db : decide ((100 : Int) < (m : Int)) = false := decide_eq_false (by omega)
  have HX := two_boxes w d r
  have e1 : decide ((n : Int) < 1) = false := decide_eq_false (by omega)
  have e2 : decide ((1048576 : Int) < (n : Int)) = false := decide_eq_false (by omega)
  have e3 : decide ((i : Int) < 0) = false := decide_eq_false (by omega)
  have e4 : decide (n ≤ i) = false := decide_eq_false (by omega)
  obtain ⟨L, hL⟩ : ∃ L, L = (turns i n).length := ⟨_, rfl⟩
  have hLn := turns_len n i
  rw [← hL] at hLn
  have HL : Hid (∀ u, Calls Try.prog 63 #[.int .i64 (i : Int), .int .i64 (n : Int)] u fun e w' => e = .returned (.int .i64 (L : Int)) ∧ Below u.heap.size u w') := Lib.hid fun u => by rw [hL]; exact length_yes u i n hi hn
  have HR : Hid (∀ u, Calls Try.prog 56 #[.int .i64 (i : Int), .int .i64 (n : Int)] u fun e w' => e = .returned (.int .i64 (L : Int)) ∧ u = w') := Lib.hid fun u => by rw [hL]; exact reflength_any n n (Nat.le_refl _) u i hi hn
  have hLL : ((L : Int) != (L : Int)) = false := by simp
  have hmL : ((m : Int) != (L : Int)) = true := by rw [hL]; simp; omega
  obtain ⟨g, hge⟩ : ∃ g, g = zero32 := ⟨_, rfl⟩
  have hg : g.length = 32 := by rw [hge]; rfl
  have HC : Hid (∀ u, Below w.heap.size w u → Calls Try.prog 90 #[.agg (d.map B8).toArray, .int .i64 (i : Int), .int .i64 (n : Int), .slice A m c] u fun e w' => e = .returned (.tuple #[.agg (g.map B8).toArray, errV 13]) ∧ Below u.heap.size u w') := Lib.hid fun u _ => by rw [hge]; exact come_len u d i n hi hn A m c hne
  have HH : Hid (∀ u, Below w.heap.size w u → Calls Try.prog 62 #[.agg (d.map B8).toArray, .int .i64 (i : Int), .int .i64 (n : Int), .slice A m c, .agg (r.map B8).toArray] u fun e w' => e = .returned (.bool false) ∧ Below u.heap.size u w') := Lib.hid fun u _ =>
    holds_of u d r zero32 hd hr rfl (i : Int) (n : Int) _ (errV 13) (fun u' _ => come_len u' d i n hi hn A m c hne) false (.inr ⟨13, rfl, rfl⟩)
  have his := fun w => is_err w 13 13 (by decide)
  have His := Lib.hid his
  have he0 := zero_eql
  rw [← hge] at he0
  have Hg := Lib.hid hg
  have hid := info_of d hd
  have hir := info_of r hr
  have hig := info_of g hg
  have hig' := info_of' g hg
  have Hge := Lib.hid hge
  clear his hg hd hr hge hL hne
  unfold SumV
  go_enter Try.func64, Try.ntmps64
  go_wp2_with fail
  refine (HA.out _).mono ?_
  rintro e w1 ⟨rfl, hb1⟩
  have H1 := Lib.hid (ComF.mk1 (HX.out _ _ rfl rfl _ rfl) hb1)
  clear hb1
  go_wp2_with ((with_reducible show wpList _ _ _ (⟨_, Op.load 26 (.tmp 5), _, _, _, _⟩ :: _) _ _); refine wpList_load_mid rfl _ _ rfl w.heap.size 0 rfl (d.map B8) _ H1.out.r0 Try.underlying26 rfl hid ?_; simp only [Act.put, List.setIfInBounds_toArray, List.set_cons_zero, List.set_cons_succ])
  refine (HC.out _ H1.out.below).mono ?_
  rintro e w2 ⟨rfl, hb2⟩
  have H2 := Lib.hid (H1.out.stable hb2)
  clear hb2
  go_wp2_with (first
    | ((with_reducible show wpList _ _ _ (⟨_, Op.store 26 (.tmp 11) _, _, _, _, _⟩ :: _) _ _); refine wpList_store_row rfl _ _ _ rfl w2.heap.size 0 (g.map B8).toArray rfl rfl (there_new' _ _ _ (by simp [Hg.out])) hig' (b8_all g) ?_; intro w3 hg3 hs3 ht3 hth3; rw [List.toList_toArray] at ht3; have hb3 : Below w2.heap.size w2 w3 := ((Below.refl _ _).alloc (Nat.le_refl _) _).grown hg3 (by simp) (by intro k hk; cases hk; exact Nat.le_refl _); have H3 := Lib.hid (And.intro (H2.out.stable hb3) ht3); clear hg3 hs3 hth3 hb3)
    | ((with_reducible show wpList _ _ _ (⟨_, Op.load 26 (.tmp 5), _, _, _, _⟩ :: _) _ _); refine wpList_load_mid rfl _ _ rfl w.heap.size 0 rfl (d.map B8) _ H3.out.1.r0 Try.underlying26 rfl hid ?_; simp only [Act.put, List.setIfInBounds_toArray, List.set_cons_zero, List.set_cons_succ])
    | ((with_reducible show wpList _ _ _ (⟨_, Op.load 26 (.tmp 9), _, _, _, _⟩ :: _) _ _); refine wpList_load_mid rfl _ _ rfl (w.heap.size + 1) 0 rfl (r.map B8) _ H3.out.1.r1 Try.underlying26 rfl hir ?_; simp only [Act.put, List.setIfInBounds_toArray, List.set_cons_zero, List.set_cons_succ]))
  refine (HH.out _ H3.out.1.below).mono ?_
  rintro e w4 ⟨rfl, hb4⟩
  have H4 := Lib.hid (And.intro (H3.out.1.stable hb4) (rangeAt_below' H3.out.2 hb4))
  clear hb4 H3 H2 H1
  go_wp2_with fail
  refine (HL.out _).mono ?_
  rintro e w6 ⟨rfl, hb6⟩
  have H6 := Lib.hid (And.intro (H4.out.1.stable hb6) (rangeAt_below' H4.out.2 hb6))
  clear hb6
  go_wp2_with (first
    | (go_at_call 56; refine (HR.out _).mono ?_; rintro e w7 ⟨rfl, rfl⟩)
    | (go_at_call 46; refine (His.out _).mono ?_; rintro e w5 ⟨rfl, rfl⟩)
    | ((with_reducible show wpList _ _ _ (⟨_, Op.load 26 (.tmp 11), _, _, _, _⟩ :: _) _ _); refine wpList_load_midW rfl _ _ rfl w2.heap.size 0 rfl (g.map B8) _ H6.out.2 Try.underlying26 rfl hig ?_; simp only [Act.put, List.setIfInBounds_toArray, List.set_cons_zero, List.set_cons_succ]))
  go_ret
  exact ⟨rfl, H6.out.1.below⟩
set_option maxRecDepth 100000 in
set_option maxHeartbeats 4000000 in
theorem comes_yes (i n : Nat) (hi : i < n) (hn : n ≤ 1048576) (ps : List Dg) (hps : RS w A m ps) (hmc : m ≤ c) (hcm : c ≤ maxLen) (hm : ¬ 100 < m) (hmL : m = (turns i n).length) : Calls Try.prog 64 #[SumV d, .int .i64 (i : Int), .int .i64 (n : Int), .slice A m c, SumV r] w fun e w' => e = .returned (.bool true) ∧ Below w.heap.size w w' := by
  have hn1 : n ≤ 1048576 := by omega
  have HA := Lib.hid alive10_any
  have db : decide ((100 : Int) < (m : Int)) = false := decide_eq_false (by omega)
  have HX := two_boxes w d r
  have e1 : decide ((n : Int) < 1) = false := decide_eq_false (by omega)
  have e2 : decide ((1048576 : Int) < (n : Int)) = false := decide_eq_false (by omega)
  have e3 : decide ((i : Int) < 0) = false := decide_eq_false (by omega)
  have e4 : decide (n ≤ i) = false := decide_eq_false (by omega)
  obtain ⟨L, hL⟩ : ∃ L, L = (turns i n).length := ⟨_, rfl⟩
  have hLn := turns_len n i
  rw [← hL] at hLn
  have HL : Hid (∀ u, Calls Try.prog 63 #[.int .i64 (i : Int), .int .i64 (n : Int)] u fun e w' => e = .returned (.int .i64 (L : Int)) ∧ Below u.heap.size u w') := Lib.hid fun u => by rw [hL]; exact length_yes u i n hi hn1
  have HR : Hid (∀ u, Calls Try.prog 56 #[.int .i64 (i : Int), .int .i64 (n : Int)] u fun e w' => e = .returned (.int .i64 (L : Int)) ∧ u = w') := Lib.hid fun u => by rw [hL]; exact reflength_any n n (Nat.le_refl _) u i hi hn1
  have hLL : ((L : Int) != (L : Int)) = false := by simp
  rw [← hL] at hmL
  have hCY := come_yes dig
  have hRC := refcome_any dig
  have hg32 := comeF_32 (F := digest32 K32 H32) dig.len
  generalize digest32 K32 H32 = F at hCY hRC hg32
  obtain ⟨g, hge⟩ : ∃ g, g = comeF F d (turns i n).reverse ps := ⟨_, rfl⟩
  have hg : g.length = 32 := by rw [hge]; exact hg32 _ _ _ hd
  have HC : Hid (∀ u, Below w.heap.size w u → Calls Try.prog 90 #[.agg (d.map B8).toArray, .int .i64 (i : Int), .int .i64 (n : Int), .slice A m c] u fun e w' => e = .returned (.tuple #[.agg (g.map B8).toArray, .nilIface]) ∧ Below u.heap.size u w') := Lib.hid fun u hu => by rw [hge]; exact hCY u d hd i n hi hn1 A m c ps (hps.below hu) hmc (hmL.trans hL)
  obtain ⟨q, hq⟩ : ∃ q, q = (g == r) := ⟨_, rfl⟩
  have HH : Hid (∀ u, Below w.heap.size w u → Calls Try.prog 62 #[.agg (d.map B8).toArray, .int .i64 (i : Int), .int .i64 (n : Int), .slice A m c, .agg (r.map B8).toArray] u fun e w' => e = .returned (.bool q) ∧ Below u.heap.size u w') := Lib.hid fun u hu =>
    holds_of u d r g hd hr hg (i : Int) (n : Int) _ .nilIface (fun u' hu' => by rw [hge]; exact hCY u' d hd i n hi hn1 A m c ps ((hps.below hu).below hu') hmc (hmL.trans hL)) q (.inl ⟨rfl, hq⟩)
  have HRC : Hid (∀ u, Below w.heap.size w u → Calls Try.prog 57 #[.agg (d.map B8).toArray, .int .i64 (i : Int), .int .i64 (n : Int), .slice A m c] u fun e w' => ∃ V, e = .returned (.tuple #[.agg (g.map B8).toArray, V]) ∧ Below u.heap.size u w') := Lib.hid fun u hu => by
    refine (hRC n n (Nat.le_refl _) u d i A m c ps hd hi hn (hps.below hu) hmc hcm (hmL.trans hL)).mono ?_
    rintro e w' ⟨A', c', us, he, -, -, hb⟩
    rw [← hge] at he
    exact ⟨_, he, hb⟩
  have heg := fun w => run_eql_sum w g g hg hg
  rw [beq_self_eq_true] at heg
  have her := fun w => run_eql_sum w g r hg hr
  rw [← hq] at her
  have Hg := Lib.hid hg
  have hid := info_of d hd
  have hir := info_of r hr
  have hig := info_of g hg
  have hig' := info_of' g hg
  have hmm : ((m : Int) != (L : Int)) = false := by rw [hmL]; simp
  have HmL := Lib.hid hmL
  have hqq : (q == q) = true := by simp
  clear hg hd hr hge hL hmL hq hCY hRC hg32 hps hmc hcm
  unfold SumV
  go_enter Try.func64, Try.ntmps64
  go_wp2_with fail
  refine (HA.out _).mono ?_
  rintro e w1 ⟨rfl, hb1⟩
  have H1 := Lib.hid (ComF.mk1 (HX.out _ _ rfl rfl _ rfl) hb1)
  clear hb1
  go_wp2_with ((with_reducible show wpList _ _ _ (⟨_, Op.load 26 (.tmp 5), _, _, _, _⟩ :: _) _ _); refine wpList_load_mid rfl _ _ rfl w.heap.size 0 rfl (d.map B8) _ H1.out.r0 Try.underlying26 rfl hid ?_; simp only [Act.put, List.setIfInBounds_toArray, List.set_cons_zero, List.set_cons_succ])
  refine (HC.out _ H1.out.below).mono ?_
  rintro e w2 ⟨rfl, hb2⟩
  have H2 := Lib.hid (H1.out.stable hb2)
  clear hb2
  go_wp2_with (first
    | ((with_reducible show wpList _ _ _ (⟨_, Op.store 26 (.tmp 11) _, _, _, _, _⟩ :: _) _ _); refine wpList_store_row rfl _ _ _ rfl w2.heap.size 0 (g.map B8).toArray rfl rfl (there_new' _ _ _ (by simp [Hg.out])) hig' (b8_all g) ?_; intro w3 hg3 hs3 ht3 hth3; rw [List.toList_toArray] at ht3; have hb3 : Below w2.heap.size w2 w3 := ((Below.refl _ _).alloc (Nat.le_refl _) _).grown hg3 (by simp) (by intro k hk; cases hk; exact Nat.le_refl _); have H3 := Lib.hid (And.intro (H2.out.stable hb3) ht3); clear hg3 hs3 hth3 hb3)
    | ((with_reducible show wpList _ _ _ (⟨_, Op.load 26 (.tmp 5), _, _, _, _⟩ :: _) _ _); refine wpList_load_mid rfl _ _ rfl w.heap.size 0 rfl (d.map B8) _ H3.out.1.r0 Try.underlying26 rfl hid ?_; simp only [Act.put, List.setIfInBounds_toArray, List.set_cons_zero, List.set_cons_succ])
    | ((with_reducible show wpList _ _ _ (⟨_, Op.load 26 (.tmp 9), _, _, _, _⟩ :: _) _ _); refine wpList_load_mid rfl _ _ rfl (w.heap.size + 1) 0 rfl (r.map B8) _ H3.out.1.r1 Try.underlying26 rfl hir ?_; simp only [Act.put, List.setIfInBounds_toArray, List.set_cons_zero, List.set_cons_succ]))
  refine (HH.out _ H3.out.1.below).mono ?_
  rintro e w4 ⟨rfl, hb4⟩
  have H4 := Lib.hid (And.intro (H3.out.1.stable hb4) (rangeAt_below' H3.out.2 hb4))
  clear hb4 H3 H2 H1
  go_wp2_with fail
  refine (HL.out _).mono ?_
  rintro e w6 ⟨rfl, hb6⟩
  have H6 := Lib.hid (And.intro (H4.out.1.stable hb6) (rangeAt_below' H4.out.2 hb6))
  clear hb6
  go_wp2_with (first
    | (go_at_call 56; refine (HR.out _).mono ?_; rintro e w7 ⟨rfl, rfl⟩)
    | ((with_reducible show wpList _ _ _ (⟨_, Op.load 26 (.tmp 5), _, _, _, _⟩ :: _) _ _); refine wpList_load_mid rfl _ _ rfl w.heap.size 0 rfl (d.map B8) _ H6.out.1.r0 Try.underlying26 rfl hid ?_; simp only [Act.put, List.setIfInBounds_toArray, List.set_cons_zero, List.set_cons_succ]))
  refine (HRC.out _ H6.out.1.below).mono ?_
  rintro e w8 ⟨V8, rfl, hb8⟩
  have H8 := Lib.hid (And.intro (H6.out.1.stable hb8) (rangeAt_below' H6.out.2 hb8))
  clear hb8
  go_wp2_with (first
    | ((with_reducible show wpList _ _ _ (⟨_, Op.store 26 (.tmp 14) _, _, _, _, _⟩ :: _) _ _); refine wpList_store_row rfl _ _ _ rfl w8.heap.size 0 (g.map B8).toArray rfl rfl (there_new' _ _ _ (by simp [Hg.out])) hig' (b8_all g) ?_; intro w9 hg9 hs9 ht9 hth9; rw [List.toList_toArray] at ht9; have hb9 : Below w8.heap.size w8 w9 := ((Below.refl _ _).alloc (Nat.le_refl _) _).grown hg9 (by simp) (by intro k hk; cases hk; exact Nat.le_refl _); have H9 := Lib.hid (And.intro (H8.out.1.stable hb9) (And.intro (rangeAt_below' H8.out.2 hb9) ht9)); clear hg9 hs9 hth9 hb9)
    | ((with_reducible show wpList _ _ _ (⟨_, Op.load 26 (.tmp 11), _, _, _, _⟩ :: _) _ _); refine wpList_load_midW rfl _ _ rfl w2.heap.size 0 rfl (g.map B8) _ H9.out.2.1 Try.underlying26 rfl hig ?_; simp only [Act.put, List.setIfInBounds_toArray, List.set_cons_zero, List.set_cons_succ])
    | ((with_reducible show wpList _ _ _ (⟨_, Op.load 26 (.tmp 14), _, _, _, _⟩ :: _) _ _); refine wpList_load_midW rfl _ _ rfl w8.heap.size 0 rfl (g.map B8) _ H9.out.2.2 Try.underlying26 rfl hig ?_; simp only [Act.put, List.setIfInBounds_toArray, List.set_cons_zero, List.set_cons_succ])
    | ((with_reducible show wpList _ _ _ (⟨_, Op.load 26 (.tmp 9), _, _, _, _⟩ :: _) _ _); refine wpList_load_midW rfl _ _ rfl (w.heap.size + 1) 0 rfl (r.map B8) _ H9.out.1.r1 Try.underlying26 rfl hir ?_; simp only [Act.put, List.setIfInBounds_toArray, List.set_cons_zero, List.set_cons_succ]))
  go_ret
  exact ⟨rfl, H9.out.1.below⟩
end
end Go.Proofs.Ytkcmacglomdfcaa
