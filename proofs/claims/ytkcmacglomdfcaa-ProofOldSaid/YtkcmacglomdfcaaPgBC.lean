/-
  THE WALK of the law ProofCome.
-/
import Derived.Test.YtkcmacglomdfcaaPgA
import Derived.Test.YtkcmacglomdfcaaLfF
import Derived.ChangeArms
namespace Go.Proofs.Ytkcmacglomdfcaa
open Go.RowKit

/-- In comes: the leaf's digest and the root in their variables. -/
structure ComF (w : World) (d r : Dg) (u : World) : Prop where
  below : Below w.heap.size w u
  r0 : u.rangeAt w.heap.size 0 (d.map B8)
  r1 : u.rangeAt (w.heap.size + 1) 0 (r.map B8)
theorem ComF.stable {w u u' : World} {d r : Dg} (h : ComF w d r u) (hb : Below u.heap.size u u') : ComF w d r u' := ⟨h.below.trans (hb.mono h.below.size), rangeAt_below' h.r0 hb, rangeAt_below' h.r1 hb⟩
theorem ComF.mk1 {w W u : World} {d r : Dg} (h : Below w.heap.size w W ∧ W.rangeAt w.heap.size 0 (d.map B8) ∧ W.rangeAt (w.heap.size + 1) 0 (r.map B8)) (hb : Below W.heap.size W u) : ComF w d r u :=
  (⟨h.1, h.2.1, h.2.2⟩ : ComF w d r W).stable hb
theorem two_boxes (w : World) (d r : Dg) : Hid (∀ (cl cr : List Value), cl = d.map B8 → cr = r.map B8 → ∀ W, W = (w.alloc (.cells cl.toArray 26)).alloc (.cells cr.toArray 26) →
    Below w.heap.size w W ∧ W.rangeAt w.heap.size 0 (d.map B8) ∧ W.rangeAt (w.heap.size + 1) 0 (r.map B8)) := Lib.hid (by
  rintro cl cr rfl rfl W rfl
  exact ⟨((Below.refl _ _).alloc (Nat.le_refl _) _).alloc (by simp) _, World.rangeAt_alloc (rangeAt_at _ _ _ _ _ rfl) _, rangeAt_at _ _ _ _ _ (by simp)⟩)
theorem zero_eql (w : World) : (binOp .eql 26 (.agg (zero32.map B8).toArray) (.agg #[.int .u8 0, .int .u8 0, .int .u8 0, .int .u8 0, .int .u8 0, .int .u8 0, .int .u8 0, .int .u8 0, .int .u8 0, .int .u8 0, .int .u8 0, .int .u8 0, .int .u8 0, .int .u8 0, .int .u8 0, .int .u8 0, .int .u8 0, .int .u8 0, .int .u8 0, .int .u8 0, .int .u8 0, .int .u8 0, .int .u8 0, .int .u8 0, .int .u8 0, .int .u8 0, .int .u8 0, .int .u8 0, .int .u8 0, .int .u8 0, .int .u8 0, .int .u8 0])).run Try.prog w = .ok (.bool true) w := by
  have h := run_eql_sum w zero32 zero32 rfl rfl
  rw [beq_self_eq_true] at h
  exact h
section
variable (w : World) (d r : Dg) (hd : d.length = 32) (hr : r.length = 32) (A : Option Addr) (m c : Nat)
include hd hr
omit hd hr in
set_option maxRecDepth 100000 in
set_option maxHeartbeats 2000000 in
theorem comes_big (i n : Int) (hm : 100 < m) : Calls Try.prog 64 #[SumV d, .int .i64 i, .int .i64 n, .slice A m c, SumV r] w fun e w' => e = .returned (.bool true) ∧ Below w.heap.size w w' := by
  have HA := Lib.hid alive10_any
  have db : decide ((100 : Int) < (m : Int)) = true := decide_eq_true (by omega)
  have HX := two_boxes w d r
  unfold SumV
  go_enter Try.func64, Try.ntmps64
  go_wp2_with fail
  refine (HA.out _).mono ?_
  rintro e w1 ⟨rfl, hb1⟩
  have H1 := Lib.hid (ComF.mk1 (HX.out _ _ rfl rfl _ rfl) hb1)
  clear hb1
  go_wp2_with fail
  go_ret
  exact ⟨rfl, H1.out.below⟩
set_option maxRecDepth 100000 in
set_option maxHeartbeats 4000000 in
theorem comes_range (i n : Int) (hm : ¬ 100 < m) (h : ¬ (1 ≤ n ∧ n ≤ 1048576 ∧ 0 ≤ i ∧ i < n)) : Calls Try.prog 64 #[SumV d, .int .i64 i, .int .i64 n, .slice A m c, SumV r] w fun e w' => e = .returned (.bool true) ∧ Below w.heap.size w w' := by
  have HA := Lib.hid alive10_any
  have db : decide ((100 : Int) < (m : Int)) = false := decide_eq_false (by omega)
  have HX := two_boxes w d r
  obtain ⟨g, hge⟩ : ∃ g, g = zero32 := ⟨_, rfl⟩
  have hg : g.length = 32 := by rw [hge]; rfl
  have HC : Hid (∀ u, Below w.heap.size w u → Calls Try.prog 90 #[.agg (d.map B8).toArray, .int .i64 i, .int .i64 n, .slice A m c] u fun e w' => e = .returned (.tuple #[.agg (g.map B8).toArray, errV 2]) ∧ Below u.heap.size u w') := Lib.hid fun u _ => by rw [hge]; exact come_range u d i n h _
  have HH : Hid (∀ u, Below w.heap.size w u → Calls Try.prog 62 #[.agg (d.map B8).toArray, .int .i64 i, .int .i64 n, .slice A m c, .agg (r.map B8).toArray] u fun e w' => e = .returned (.bool false) ∧ Below u.heap.size u w') := Lib.hid fun u _ =>
    holds_of u d r zero32 hd hr rfl i n _ (errV 2) (fun u' _ => come_range u' d i n h _) false (.inr ⟨2, rfl, rfl⟩)
  have HL : Hid (∀ u, Calls Try.prog 63 #[.int .i64 i, .int .i64 n] u fun e w' => e = .returned (.int .i64 (-1)) ∧ u = w') := Lib.hid fun u => length_no u i n h
  have his := fun w => is_err w 2 2 (by decide)
  have His := Lib.hid his
  have he0 := zero_eql
  rw [← hge] at he0
  have Hg := Lib.hid hg
  have hid := info_of d hd
  have hir := info_of r hr
  have hig := info_of g hg
  have hig' := info_of' g hg
  have Hge := Lib.hid hge
  have Hh := Lib.hid h
  clear his hg hd hr hge h
  unfold SumV
  go_enter Try.func64, Try.ntmps64
  go_wp2_with fail
  refine (HA.out _).mono ?_
  rintro e w1 ⟨rfl, hb1⟩
  have H1 := Lib.hid (ComF.mk1 (HX.out _ _ rfl rfl _ rfl) hb1)
  clear hb1
  go_wp2_with ((with_reducible show wpList _ _ _ (⟨_, Op.load 26 (.tmp 5), _, _, _, _⟩ :: _) _ _); refine wpList_load_mid rfl _ _ rfl w.heap.size 0 rfl (d.map B8) _ H1.out.r0 Try.underlying26 rfl hid ?_; simp only [Act.put, List.setIfInBounds_toArray, List.set_cons_zero, List.set_cons_succ])
  refine (HC.out _ H1.out.below).mono ?_
  rintro e w2 ⟨rfl, hb2⟩
  have H2 := Lib.hid (H1.out.stable hb2)
  clear hb2
  go_wp2_with (first
    | ((with_reducible show wpList _ _ _ (⟨_, Op.store 26 (.tmp 11) _, _, _, _, _⟩ :: _) _ _); refine wpList_store_row rfl _ _ _ rfl w2.heap.size 0 (g.map B8).toArray rfl rfl (there_new' _ _ _ (by simp [Hg.out])) hig' (b8_all g) ?_; intro w3 hg3 hs3 ht3 hth3; rw [List.toList_toArray] at ht3; have hb3 : Below w2.heap.size w2 w3 := ((Below.refl _ _).alloc (Nat.le_refl _) _).grown hg3 (by simp) (by intro k hk; cases hk; exact Nat.le_refl _); have H3 := Lib.hid (And.intro (H2.out.stable hb3) ht3); clear hg3 hs3 hth3 hb3)
    | ((with_reducible show wpList _ _ _ (⟨_, Op.load 26 (.tmp 5), _, _, _, _⟩ :: _) _ _); refine wpList_load_mid rfl _ _ rfl w.heap.size 0 rfl (d.map B8) _ H3.out.1.r0 Try.underlying26 rfl hid ?_; simp only [Act.put, List.setIfInBounds_toArray, List.set_cons_zero, List.set_cons_succ])
    | ((with_reducible show wpList _ _ _ (⟨_, Op.load 26 (.tmp 9), _, _, _, _⟩ :: _) _ _); refine wpList_load_mid rfl _ _ rfl (w.heap.size + 1) 0 rfl (r.map B8) _ H3.out.1.r1 Try.underlying26 rfl hir ?_; simp only [Act.put, List.setIfInBounds_toArray, List.set_cons_zero, List.set_cons_succ]))
  refine (HH.out _ H3.out.1.below).mono ?_
  rintro e w4 ⟨rfl, hb4⟩
  have H4 := Lib.hid (And.intro (H3.out.1.stable hb4) (rangeAt_below' H3.out.2 hb4))
  clear hb4 H3 H2 H1
  by_cases q1 : n < 1
  · have e1 : decide (n < 1) = true := decide_eq_true q1
    go_wp2_with (first | (go_at_call 46; refine (His.out _).mono ?_; rintro e w5 ⟨rfl, rfl⟩) | ((with_reducible show wpList _ _ _ (⟨_, Op.load 26 (.tmp 11), _, _, _, _⟩ :: _) _ _); refine wpList_load_midW rfl _ _ rfl w2.heap.size 0 rfl (g.map B8) _ H4.out.2 Try.underlying26 rfl hig ?_; simp only [Act.put, List.setIfInBounds_toArray, List.set_cons_zero, List.set_cons_succ]) | (go_at_call 63; refine (HL.out _).mono ?_; rintro e w6 ⟨rfl, rfl⟩))
    go_ret
    exact ⟨rfl, H4.out.1.below⟩
  · have e1 : decide (n < 1) = false := decide_eq_false q1
    by_cases q2 : 1048576 < n
    · have e2 : decide (1048576 < n) = true := decide_eq_true q2
      go_wp2_with (first | (go_at_call 46; refine (His.out _).mono ?_; rintro e w5 ⟨rfl, rfl⟩) | ((with_reducible show wpList _ _ _ (⟨_, Op.load 26 (.tmp 11), _, _, _, _⟩ :: _) _ _); refine wpList_load_midW rfl _ _ rfl w2.heap.size 0 rfl (g.map B8) _ H4.out.2 Try.underlying26 rfl hig ?_; simp only [Act.put, List.setIfInBounds_toArray, List.set_cons_zero, List.set_cons_succ]) | (go_at_call 63; refine (HL.out _).mono ?_; rintro e w6 ⟨rfl, rfl⟩))
      go_ret
      exact ⟨rfl, H4.out.1.below⟩
    · have e2 : decide (1048576 < n) = false := decide_eq_false q2
      by_cases q3 : i < 0
      · have e3 : decide (i < 0) = true := decide_eq_true q3
        go_wp2_with (first | (go_at_call 46; refine (His.out _).mono ?_; rintro e w5 ⟨rfl, rfl⟩) | ((with_reducible show wpList _ _ _ (⟨_, Op.load 26 (.tmp 11), _, _, _, _⟩ :: _) _ _); refine wpList_load_midW rfl _ _ rfl w2.heap.size 0 rfl (g.map B8) _ H4.out.2 Try.underlying26 rfl hig ?_; simp only [Act.put, List.setIfInBounds_toArray, List.set_cons_zero, List.set_cons_succ]) | (go_at_call 63; refine (HL.out _).mono ?_; rintro e w6 ⟨rfl, rfl⟩))
        go_ret
        exact ⟨rfl, H4.out.1.below⟩
      · have e3 : decide (i < 0) = false := decide_eq_false q3
        have e4 : decide (n ≤ i) = true := decide_eq_true (by have := Hh.out; omega)
        go_wp2_with (first | (go_at_call 46; refine (His.out _).mono ?_; rintro e w5 ⟨rfl, rfl⟩) | ((with_reducible show wpList _ _ _ (⟨_, Op.load 26 (.tmp 11), _, _, _, _⟩ :: _) _ _); refine wpList_load_midW rfl _ _ rfl w2.heap.size 0 rfl (g.map B8) _ H4.out.2 Try.underlying26 rfl hig ?_; simp only [Act.put, List.setIfInBounds_toArray, List.set_cons_zero, List.set_cons_succ]) | (go_at_call 63; refine (HL.out _).mono ?_; rintro e w6 ⟨rfl, rfl⟩))
        go_ret
        exact ⟨rfl, H4.out.1.below⟩
set_option maxRecDepth 100000 in
set_option maxHeartbeats 4000000 in
theorem comes_len (i n : Nat) (hi : i < n) (hn : n ≤ 1048576) (hm : ¬ 100 < m) (hne : m ≠ (turns i n).length) : Calls Try.prog 64 #[SumV d, .int .i64 (i : Int), .int .i64 (n : Int), .slice A m c, SumV r] w fun e w' => e = .returned (.bool true) ∧ Below w.heap.size w w' := by
  have HA := Lib.hid alive10_any
  have db : decide ((100 : Int) < (m : Int)) = false := decide_eq_false (by omega)
  have HX := two_boxes w d r
  have e1 : decide ((n : Int) < 1) = false := decide_eq_false (by omega)
  have e2 : decide ((1048576 : Int) < (n : Int)) = false := decide_eq_false (by omega)
  have e3 : decide ((i : Int) < 0) = false := decide_eq_false (by omega)
  have e4 : decide (n ≤ i) = false := decide_eq_false (by omega)
  obtain ⟨L, hL⟩ : ∃ L, L = (turns i n).length := ⟨_, rfl⟩
  have hLn := turns_len n i
  rw [← hL] at hLn
  have HL : Hid (∀ u, Calls Try.prog 63 #[.int .i64 (i : Int), .int .i64 (n : Int)] u fun e w' => e = .returned (.int .i64 (L : Int)) ∧ Below u.heap.size u w') := Lib.hid fun u => by rw [hL]; exact length_yes u i n hi hn
  have HR : Hid (∀ u, Calls Try.prog 56 #[.int .i64 (i : Int), .int .i64 (n : Int)] u fun e w' => e = .returned (.int .i64 (L : Int)) ∧ u = w') := Lib.hid fun u => by rw [hL]; exact reflength_any n n (Nat.le_refl _) u i hi hn
  have hLL : ((L : Int) != (L : Int)) = false := by simp
  have hmL : ((m : Int) != (L : Int)) = true := by rw [hL]; simp; omega
  obtain ⟨g, hge⟩ : ∃ g, g = zero32 := ⟨_, rfl⟩
  have hg : g.length = 32 := by rw [hge]; rfl
  have HC : Hid (∀ u, Below w.heap.size w u → Calls Try.prog 90 #[.agg (d.map B8).toArray, .int .i64 (i : Int), .int .i64 (n : Int), .slice A m c] u fun e w' => e = .returned (.tuple #[.agg (g.map B8).toArray, errV 13]) ∧ Below u.heap.size u w') := Lib.hid fun u _ => by rw [hge]; exact come_len u d i n hi hn A m c hne
  have HH : Hid (∀ u, Below w.heap.size w u → Calls Try.prog 62 #[.agg (d.map B8).toArray, .int .i64 (i : Int), .int .i64 (n : Int), .slice A m c, .agg (r.map B8).toArray] u fun e w' => e = .returned (.bool false) ∧ Below u.heap.size u w') := Lib.hid fun u _ =>
    holds_of u d r zero32 hd hr rfl (i : Int) (n : Int) _ (errV 13) (fun u' _ => come_len u' d i n hi hn A m c hne) false (.inr ⟨13, rfl, rfl⟩)
  have his := fun w => is_err w 13 13 (by decide)
  have His := Lib.hid his
  have he0 := zero_eql
  rw [← hge] at he0
  have Hg := Lib.hid hg
  have hid := info_of d hd
  have hir := info_of r hr
  have hig := info_of g hg
  have hig' := info_of' g hg
  have Hge := Lib.hid hge
  clear his hg hd hr hge hL hne
  unfold SumV
  go_enter Try.func64, Try.ntmps64
  go_wp2_with fail
  refine (HA.out _).mono ?_
  rintro e w1 ⟨rfl, hb1⟩
  have H1 := Lib.hid (ComF.mk1 (HX.out _ _ rfl rfl _ rfl) hb1)
  clear hb1
  go_wp2_with ((with_reducible show wpList _ _ _ (⟨_, Op.load 26 (.tmp 5), _, _, _, _⟩ :: _) _ _); refine wpList_load_mid rfl _ _ rfl w.heap.size 0 rfl (d.map B8) _ H1.out.r0 Try.underlying26 rfl hid ?_; simp only [Act.put, List.setIfInBounds_toArray, List.set_cons_zero, List.set_cons_succ])
  refine (HC.out _ H1.out.below).mono ?_
  rintro e w2 ⟨rfl, hb2⟩
  have H2 := Lib.hid (H1.out.stable hb2)
  clear hb2
  go_wp2_with (first
    | ((with_reducible show wpList _ _ _ (⟨_, Op.store 26 (.tmp 11) _, _, _, _, _⟩ :: _) _ _); refine wpList_store_row rfl _ _ _ rfl w2.heap.size 0 (g.map B8).toArray rfl rfl (there_new' _ _ _ (by simp [Hg.out])) hig' (b8_all g) ?_; intro w3 hg3 hs3 ht3 hth3; rw [List.toList_toArray] at ht3; have hb3 : Below w2.heap.size w2 w3 := ((Below.refl _ _).alloc (Nat.le_refl _) _).grown hg3 (by simp) (by intro k hk; cases hk; exact Nat.le_refl _); have H3 := Lib.hid (And.intro (H2.out.stable hb3) ht3); clear hg3 hs3 hth3 hb3)
    | ((with_reducible show wpList _ _ _ (⟨_, Op.load 26 (.tmp 5), _, _, _, _⟩ :: _) _ _); refine wpList_load_mid rfl _ _ rfl w.heap.size 0 rfl (d.map B8) _ H3.out.1.r0 Try.underlying26 rfl hid ?_; simp only [Act.put, List.setIfInBounds_toArray, List.set_cons_zero, List.set_cons_succ])
    | ((with_reducible show wpList _ _ _ (⟨_, Op.load 26 (.tmp 9), _, _, _, _⟩ :: _) _ _); refine wpList_load_mid rfl _ _ rfl (w.heap.size + 1) 0 rfl (r.map B8) _ H3.out.1.r1 Try.underlying26 rfl hir ?_; simp only [Act.put, List.setIfInBounds_toArray, List.set_cons_zero, List.set_cons_succ]))
  refine (HH.out _ H3.out.1.below).mono ?_
  rintro e w4 ⟨rfl, hb4⟩
  have H4 := Lib.hid (And.intro (H3.out.1.stable hb4) (rangeAt_below' H3.out.2 hb4))
  clear hb4 H3 H2 H1
  go_wp2_with fail
  refine (HL.out _).mono ?_
  rintro e w6 ⟨rfl, hb6⟩
  have H6 := Lib.hid (And.intro (H4.out.1.stable hb6) (rangeAt_below' H4.out.2 hb6))
  clear hb6
  go_wp2_with (first
    | (go_at_call 56; refine (HR.out _).mono ?_; rintro e w7 ⟨rfl, rfl⟩)
    | (go_at_call 46; refine (His.out _).mono ?_; rintro e w5 ⟨rfl, rfl⟩)
    | ((with_reducible show wpList _ _ _ (⟨_, Op.load 26 (.tmp 11), _, _, _, _⟩ :: _) _ _); refine wpList_load_midW rfl _ _ rfl w2.heap.size 0 rfl (g.map B8) _ H6.out.2 Try.underlying26 rfl hig ?_; simp only [Act.put, List.setIfInBounds_toArray, List.set_cons_zero, List.set_cons_succ]))
  go_ret
  exact ⟨rfl, H6.out.1.below⟩
set_option maxRecDepth 100000 in
set_option maxHeartbeats 4000000 in
theorem comes_yes (i n : Nat) (hi : i < n) (hn : n ≤ 1048576) (ps : List Dg) (hps : RS w A m ps) (hmc : m ≤ c) (hcm : c ≤ maxLen) (hm : ¬ 100 < m) (hmL : m = (turns i n).length) : Calls Try.prog 64 #[SumV d, .int .i64 (i : Int), .int .i64 (n : Int), .slice A m c, SumV r] w fun e w' => e = .returned (.bool true) ∧ Below w.heap.size w w' := by
  have hn1 : n ≤ 1048576 := by omega
  have HA := Lib.hid alive10_any
  have db : decide ((100 : Int) < (m : Int)) = false := decide_eq_false (by omega)
  have HX := two_boxes w d r
  have e1 : decide ((n : Int) < 1) = false := decide_eq_false (by omega)
  have e2 : decide ((1048576 : Int) < (n : Int)) = false := decide_eq_false (by omega)
  have e3 : decide ((i : Int) < 0) = false := decide_eq_false (by omega)
  have e4 : decide (n ≤ i) = false := decide_eq_false (by omega)
  obtain ⟨L, hL⟩ : ∃ L, L = (turns i n).length := ⟨_, rfl⟩
  have hLn := turns_len n i
  rw [← hL] at hLn
  have HL : Hid (∀ u, Calls Try.prog 63 #[.int .i64 (i : Int), .int .i64 (n : Int)] u fun e w' => e = .returned (.int .i64 (L : Int)) ∧ Below u.heap.size u w') := Lib.hid fun u => by rw [hL]; exact length_yes u i n hi hn1
  have HR : Hid (∀ u, Calls Try.prog 56 #[.int .i64 (i : Int), .int .i64 (n : Int)] u fun e w' => e = .returned (.int .i64 (L : Int)) ∧ u = w') := Lib.hid fun u => by rw [hL]; exact reflength_any n n (Nat.le_refl _) u i hi hn1
  have hLL : ((L : Int) != (L : Int)) = false := by simp
  rw [← hL] at hmL
  have hCY := come_yes dig
  have hRC := refcome_any dig
  have hg32 := comeF_32 (F := digest32 K32 H32) dig.len
  generalize digest32 K32 H32 = F at hCY hRC hg32
  obtain ⟨g, hge⟩ : ∃ g, g = comeF F d (turns i n).reverse ps := ⟨_, rfl⟩
  have hg : g.length = 32 := by rw [hge]; exact hg32 _ _ _ hd
  have HC : Hid (∀ u, Below w.heap.size w u → Calls Try.prog 90 #[.agg (d.map B8).toArray, .int .i64 (i : Int), .int .i64 (n : Int), .slice A m c] u fun e w' => e = .returned (.tuple #[.agg (g.map B8).toArray, .nilIface]) ∧ Below u.heap.size u w') := Lib.hid fun u hu => by rw [hge]; exact hCY u d hd i n hi hn1 A m c ps (hps.below hu) hmc (hmL.trans hL)
  obtain ⟨q, hq⟩ : ∃ q, q = (g == r) := ⟨_, rfl⟩
  have HH : Hid (∀ u, Below w.heap.size w u → Calls Try.prog 62 #[.agg (d.map B8).toArray, .int .i64 (i : Int), .int .i64 (n : Int), .slice A m c, .agg (r.map B8).toArray] u fun e w' => e = .returned (.bool q) ∧ Below u.heap.size u w') := Lib.hid fun u hu =>
    holds_of u d r g hd hr hg (i : Int) (n : Int) _ .nilIface (fun u' hu' => by rw [hge]; exact hCY u' d hd i n hi hn1 A m c ps ((hps.below hu).below hu') hmc (hmL.trans hL)) q (.inl ⟨rfl, hq⟩)
  have HRC : Hid (∀ u, Below w.heap.size w u → Calls Try.prog 57 #[.agg (d.map B8).toArray, .int .i64 (i : Int), .int .i64 (n : Int), .slice A m c] u fun e w' => ∃ V, e = .returned (.tuple #[.agg (g.map B8).toArray, V]) ∧ Below u.heap.size u w') := Lib.hid fun u hu => by
    refine (hRC n n (Nat.le_refl _) u d i A m c ps hd hi hn (hps.below hu) hmc hcm (hmL.trans hL)).mono ?_
    rintro e w' ⟨A', c', us, he, -, -, hb⟩
    rw [← hge] at he
    exact ⟨_, he, hb⟩
  have heg := fun w => run_eql_sum w g g hg hg
  rw [beq_self_eq_true] at heg
  have her := fun w => run_eql_sum w g r hg hr
  rw [← hq] at her
  have Hg := Lib.hid hg
  have hid := info_of d hd
  have hir := info_of r hr
  have hig := info_of g hg
  have hig' := info_of' g hg
  have hmm : ((m : Int) != (L : Int)) = false := by rw [hmL]; simp
  have HmL := Lib.hid hmL
  have hqq : (q == q) = true := by simp
  clear hg hd hr hge hL hmL hq hCY hRC hg32 hps hmc hcm
  unfold SumV
  go_enter Try.func64, Try.ntmps64
  go_wp2_with fail
  refine (HA.out _).mono ?_
  rintro e w1 ⟨rfl, hb1⟩
  have H1 := Lib.hid (ComF.mk1 (HX.out _ _ rfl rfl _ rfl) hb1)
  clear hb1
  go_wp2_with ((with_reducible show wpList _ _ _ (⟨_, Op.load 26 (.tmp 5), _, _, _, _⟩ :: _) _ _); refine wpList_load_mid rfl _ _ rfl w.heap.size 0 rfl (d.map B8) _ H1.out.r0 Try.underlying26 rfl hid ?_; simp only [Act.put, List.setIfInBounds_toArray, List.set_cons_zero, List.set_cons_succ])
  refine (HC.out _ H1.out.below).mono ?_
  rintro e w2 ⟨rfl, hb2⟩
  have H2 := Lib.hid (H1.out.stable hb2)
  clear hb2
  go_wp2_with (first
    | ((with_reducible show wpList _ _ _ (⟨_, Op.store 26 (.tmp 11) _, _, _, _, _⟩ :: _) _ _); refine wpList_store_row rfl _ _ _ rfl w2.heap.size 0 (g.map B8).toArray rfl rfl (there_new' _ _ _ (by simp [Hg.out])) hig' (b8_all g) ?_; intro w3 hg3 hs3 ht3 hth3; rw [List.toList_toArray] at ht3; have hb3 : Below w2.heap.size w2 w3 := ((Below.refl _ _).alloc (Nat.le_refl _) _).grown hg3 (by simp) (by intro k hk; cases hk; exact Nat.le_refl _); have H3 := Lib.hid (And.intro (H2.out.stable hb3) ht3); clear hg3 hs3 hth3 hb3)
    | ((with_reducible show wpList _ _ _ (⟨_, Op.load 26 (.tmp 5), _, _, _, _⟩ :: _) _ _); refine wpList_load_mid rfl _ _ rfl w.heap.size 0 rfl (d.map B8) _ H3.out.1.r0 Try.underlying26 rfl hid ?_; simp only [Act.put, List.setIfInBounds_toArray, List.set_cons_zero, List.set_cons_succ])
    | ((with_reducible show wpList _ _ _ (⟨_, Op.load 26 (.tmp 9), _, _, _, _⟩ :: _) _ _); refine wpList_load_mid rfl _ _ rfl (w.heap.size + 1) 0 rfl (r.map B8) _ H3.out.1.r1 Try.underlying26 rfl hir ?_; simp only [Act.put, List.setIfInBounds_toArray, List.set_cons_zero, List.set_cons_succ]))
  refine (HH.out _ H3.out.1.below).mono ?_
  rintro e w4 ⟨rfl, hb4⟩
  have H4 := Lib.hid (And.intro (H3.out.1.stable hb4) (rangeAt_below' H3.out.2 hb4))
  clear hb4 H3 H2 H1
  go_wp2_with fail
  refine (HL.out _).mono ?_
  rintro e w6 ⟨rfl, hb6⟩
  have H6 := Lib.hid (And.intro (H4.out.1.stable hb6) (rangeAt_below' H4.out.2 hb6))
  clear hb6
  go_wp2_with (first
    | (go_at_call 56; refine (HR.out _).mono ?_; rintro e w7 ⟨rfl, rfl⟩)
    | ((with_reducible show wpList _ _ _ (⟨_, Op.load 26 (.tmp 5), _, _, _, _⟩ :: _) _ _); refine wpList_load_mid rfl _ _ rfl w.heap.size 0 rfl (d.map B8) _ H6.out.1.r0 Try.underlying26 rfl hid ?_; simp only [Act.put, List.setIfInBounds_toArray, List.set_cons_zero, List.set_cons_succ]))
  refine (HRC.out _ H6.out.1.below).mono ?_
  rintro e w8 ⟨V8, rfl, hb8⟩
  have H8 := Lib.hid (And.intro (H6.out.1.stable hb8) (rangeAt_below' H6.out.2 hb8))
  clear hb8
  go_wp2_with (first
    | ((with_reducible show wpList _ _ _ (⟨_, Op.store 26 (.tmp 14) _, _, _, _, _⟩ :: _) _ _); refine wpList_store_row rfl _ _ _ rfl w8.heap.size 0 (g.map B8).toArray rfl rfl (there_new' _ _ _ (by simp [Hg.out])) hig' (b8_all g) ?_; intro w9 hg9 hs9 ht9 hth9; rw [List.toList_toArray] at ht9; have hb9 : Below w8.heap.size w8 w9 := ((Below.refl _ _).alloc (Nat.le_refl _) _).grown hg9 (by simp) (by intro k hk; cases hk; exact Nat.le_refl _); have H9 := Lib.hid (And.intro (H8.out.1.stable hb9) (And.intro (rangeAt_below' H8.out.2 hb9) ht9)); clear hg9 hs9 hth9 hb9)
    | ((with_reducible show wpList _ _ _ (⟨_, Op.load 26 (.tmp 11), _, _, _, _⟩ :: _) _ _); refine wpList_load_midW rfl _ _ rfl w2.heap.size 0 rfl (g.map B8) _ H9.out.2.1 Try.underlying26 rfl hig ?_; simp only [Act.put, List.setIfInBounds_toArray, List.set_cons_zero, List.set_cons_succ])
    | ((with_reducible show wpList _ _ _ (⟨_, Op.load 26 (.tmp 14), _, _, _, _⟩ :: _) _ _); refine wpList_load_midW rfl _ _ rfl w8.heap.size 0 rfl (g.map B8) _ H9.out.2.2 Try.underlying26 rfl hig ?_; simp only [Act.put, List.setIfInBounds_toArray, List.set_cons_zero, List.set_cons_succ])
    | ((with_reducible show wpList _ _ _ (⟨_, Op.load 26 (.tmp 9), _, _, _, _⟩ :: _) _ _); refine wpList_load_midW rfl _ _ rfl (w.heap.size + 1) 0 rfl (r.map B8) _ H9.out.1.r1 Try.underlying26 rfl hir ?_; simp only [Act.put, List.setIfInBounds_toArray, List.set_cons_zero, List.set_cons_succ]))
  go_ret
  exact ⟨rfl, H9.out.1.below⟩
end
end Go.Proofs.Ytkcmacglomdfcaa

/-
  STRUCTS THAT CAME IN: of digests, numbers and rows of digests.
-/
namespace Go.Proofs.Ytkcmacglomdfcaa
open Go.ChangeShapes Go.WideShapes Go.ChangeAt Go.RowKit

section
variable {H : Type} {enc : TypeId × Value → H} {P : Program} {w : World} {base : Nat} {held : Bool}
theorem trod_sums {t te e : TypeId} {fuel : Nat} {cs : List Value} {x : DataW H × List MemPlace} (ht : P.underlying t = some (.slice te)) (K : WideMaps.ArrKey P te e 32) (he : P.underlying e = some (.int .u8))
    (h : DataW.trod enc P w base (fun _ => true) held fuel t cs = some x) : ∃ v ls, cs = [v] ∧ SS w v ls := by
  rcases Go.Deep.open_slice ht h with ⟨hcs, hx⟩ | ⟨a', len', cap', m, n, D, Pl, hcs, _, hl, hm, hmm, hx, hel⟩
  · exact ⟨_, [], hcs, none, 0, 0, rfl, Nat.le_refl _, Nat.zero_le _, RS.nil _ _⟩
  · rw [if_pos rfl] at hmm
    subst hmm
    have key : ∀ i, i < len' → ∃ bs : List UInt8, bs.length = 32 ∧ ∀ j u, (bs.map B8)[j]? = some u → w.cell? (a'.add (i * 32 + j)) = some u := by
      intro i hi
      obtain ⟨cs', hcs', htr⟩ := hel i (by omega)
      obtain ⟨bs, hbl, rfl⟩ := trod_sum K.hu he K.one K.size htr
      rw [K.size] at hcs'
      obtain ⟨_, _, hat⟩ := World.cells?_some hcs'
      refine ⟨bs, hbl, fun j u hu => ?_⟩
      have hj : j < 32 := by have := (List.getElem?_eq_some_iff.1 hu).1; simpa [hbl] using this
      have h0 := hat (i := j) hj
      rw [Addr.add_add] at h0
      rw [h0]
      exact hu
    have hlist : ∀ k, k ≤ len' → ∃ ls : List (List UInt8), ls.length = k ∧ (∀ x ∈ ls, x.length = 32) ∧ ∀ i x, ls[i]? = some x → ∀ j u, (x.map B8)[j]? = some u → w.cell? (a'.add (i * 32 + j)) = some u := by
      intro k
      induction k with
      | zero => intro _; exact ⟨[], rfl, fun x hx => by simp at hx, fun i x hx => by simp at hx⟩
      | succ k ih =>
        intro hk
        obtain ⟨ls, h1, h2, h3⟩ := ih (by omega)
        obtain ⟨bs, hb1, hb2⟩ := key k (by omega)
        refine ⟨ls ++ [bs], by simp [h1], fun x hx => ?_, fun i x hx => ?_⟩
        · rcases List.mem_append.1 hx with hx | hx
          · exact h2 x hx
          · simp at hx; subst hx; exact hb1
        · by_cases hi : i < ls.length
          · rw [List.getElem?_append_left hi] at hx; exact h3 i x hx
          · have hlt := (List.getElem?_eq_some_iff.1 hx).1
            simp at hlt
            obtain rfl : i = k := by omega
            rw [List.getElem?_append_right (by omega), h1] at hx
            simp at hx
            subst hx
            exact hb2
    obtain ⟨ls, h1, h2, h3⟩ := hlist len' (Nat.le_refl _)
    refine ⟨_, ls, hcs, _, len', _, rfl, hl, hm, h1, h2, fun hn => ?_⟩
    have hl0 : ls[0]? = some (ls[0]'(by omega)) := List.getElem?_eq_getElem (by omega)
    have h32 := h2 _ (List.getElem_mem (show 0 < ls.length by omega))
    have h0 := h3 0 _ hl0 0 (B8 ((ls[0]'(by omega))[0]'(by omega))) (by rw [List.getElem?_map, List.getElem?_eq_getElem (by omega)]; rfl)
    obtain ⟨b, off, spot⟩ := a'
    have hs : spot = none := by simpa [Addr.add] using World.cell?_spot h0
    subst hs
    refine ⟨b, off, rfl, fun i x hx j u hu => ?_⟩
    have := h3 i x hx j u hu
    rw [Addr.add_mid] at this
    rw [Nat.add_assoc]
    exact this
end
theorem cut_at {α : Type} (l : List α) (k j : Nat) {r : List α} (h : l.drop (k + j) = r) : l.drop k = (l.drop k).take j ++ r := by
  rw [← h, ← List.drop_drop, List.take_append_drop]
section
variable {H : Type} {enc : TypeId × Value → H} {w : World} {base : Nat} {held : Bool} {r : Reach} {b0 : Nat} {v : Value} {d : DataW H} {p : List MemPlace}
theorem cells_sum : Try.prog.cellsOf 26 = 32 := by kernel_rfl
theorem cells_int : Try.prog.cellsOf 3 = 1 := by kernel_rfl
theorem cells_sums : Try.prog.cellsOf 42 = 1 := by kernel_rfl
set_option maxRecDepth 100000 in
theorem open_coming (hv : Value.okWide Try.prog w r b0 78 v) (h : DataW.Trod enc Try.prog w base (fun _ => true) held 78 v d p) :
    ∃ (l : Dg) (i n : Int) (V : Value) (ps : List Dg) (rt : Dg), v = .agg (l.map B8 ++ ([.int .i64 i, .int .i64 n, V] ++ rt.map B8)).toArray ∧ l.length = 32 ∧ (Lit.int .i64 i).wf = true ∧ (Lit.int .i64 n).wf = true ∧ SS w V ps ∧ rt.length = 32 := by
  obtain ⟨cs, rfl, hsz⟩ := okWide_struct Try.underlying78 hv
  have h67 : Try.prog.cellsOf 78 = 67 := by kernel_rfl
  obtain ⟨fuel, hf⟩ := h
  obtain ⟨xs, n, _, _, _, hxl, hel⟩ := DataW.trod_struct Try.underlying78 hf
  simp only [Value.cells] at hel
  rw [h67] at hsz
  obtain ⟨L, rfl⟩ : ∃ L : List Value, cs = L.toArray := ⟨cs.toList, rfl⟩
  have hL : L.length = 67 := by simpa using hsz
  have g0 := hel 0 _ rfl
  have g1 := hel 1 _ rfl
  have g2 := hel 2 _ rfl
  have g3 := hel 3 _ rfl
  have g4 := hel 4 _ rfl
  match xs, hxl with
  | [x0, x1, x2, x3, x4], _ =>
    change DataW.trod enc Try.prog w base (fun _ => true) held _ 26 ((L.drop 0).take (Try.prog.cellsOf 26)) = some x0 at g0
    rw [cells_sum] at g0
    change DataW.trod enc Try.prog w base (fun _ => true) held _ 3 ((L.drop 32).take (Try.prog.cellsOf 3)) = some x1 at g1
    rw [cells_int] at g1
    change DataW.trod enc Try.prog w base (fun _ => true) held _ 3 ((L.drop 33).take (Try.prog.cellsOf 3)) = some x2 at g2
    rw [cells_int] at g2
    change DataW.trod enc Try.prog w base (fun _ => true) held _ 42 ((L.drop 34).take (Try.prog.cellsOf 42)) = some x3 at g3
    rw [cells_sums] at g3
    change DataW.trod enc Try.prog w base (fun _ => true) held _ 26 ((L.drop 35).take (Try.prog.cellsOf 26)) = some x4 at g4
    rw [cells_sum] at g4
    obtain ⟨l, hl, e0⟩ := trod_sum arrSum.hu Try.underlying5 arrSum.one arrSum.size g0
    obtain ⟨i, e1, _, wi⟩ := DataW.trod_int Try.underlying3 g1
    obtain ⟨n, e2, _, wn⟩ := DataW.trod_int Try.underlying3 g2
    obtain ⟨V, ps, e3, hV⟩ := trod_sums Try.underlying42 arrSum Try.underlying5 g3
    obtain ⟨rt, hrt, e4⟩ := trod_sum arrSum.hu Try.underlying5 arrSum.one arrSum.size g4
    refine ⟨l, i, n, V, ps, rt, ?_, hl, wi, wn, hV, hrt⟩
    have a4 : L.drop 35 = (L.drop 35).take 32 := (List.take_of_length_le (by simp; omega)).symm
    rw [e4] at a4
    have a3 := cut_at L 34 1 a4
    rw [e3] at a3
    have a2 := cut_at L 33 1 a3
    rw [e2] at a2
    have a1 := cut_at L 32 1 a2
    rw [e1] at a1
    have a0 := cut_at L 0 32 a1
    rw [e0, List.drop_zero] at a0
    rw [a0]
    rfl
set_option maxRecDepth 100000 in
theorem open_only (hv : Value.okWide Try.prog w r b0 81 v) (h : DataW.Trod enc Try.prog w base (fun _ => true) held 81 v d p) :
    ∃ (L : Value) (ls : List Dg) (i : Int) (l : Dg) (V : Value) (ps : List Dg), v = .agg ([L, .int .i64 i] ++ (l.map B8 ++ [V])).toArray ∧ SS w L ls ∧ (Lit.int .i64 i).wf = true ∧ l.length = 32 ∧ SS w V ps := by
  obtain ⟨cs, rfl, hsz⟩ := okWide_struct Try.underlying81 hv
  have h67 : Try.prog.cellsOf 81 = 35 := by kernel_rfl
  obtain ⟨fuel, hf⟩ := h
  obtain ⟨xs, n, _, _, _, hxl, hel⟩ := DataW.trod_struct Try.underlying81 hf
  simp only [Value.cells] at hel
  rw [h67] at hsz
  obtain ⟨L, rfl⟩ : ∃ L : List Value, cs = L.toArray := ⟨cs.toList, rfl⟩
  have hL : L.length = 35 := by simpa using hsz
  have g0 := hel 0 _ rfl
  have g1 := hel 1 _ rfl
  have g2 := hel 2 _ rfl
  have g3 := hel 3 _ rfl
  match xs, hxl with
  | [x0, x1, x2, x3], _ =>
    change DataW.trod enc Try.prog w base (fun _ => true) held _ 42 ((L.drop 0).take (Try.prog.cellsOf 42)) = some x0 at g0
    rw [cells_sums] at g0
    change DataW.trod enc Try.prog w base (fun _ => true) held _ 3 ((L.drop 1).take (Try.prog.cellsOf 3)) = some x1 at g1
    rw [cells_int] at g1
    change DataW.trod enc Try.prog w base (fun _ => true) held _ 26 ((L.drop 2).take (Try.prog.cellsOf 26)) = some x2 at g2
    rw [cells_sum] at g2
    change DataW.trod enc Try.prog w base (fun _ => true) held _ 42 ((L.drop 34).take (Try.prog.cellsOf 42)) = some x3 at g3
    rw [cells_sums] at g3
    obtain ⟨L0, ls, e0, hls⟩ := trod_sums Try.underlying42 arrSum Try.underlying5 g0
    obtain ⟨i, e1, _, wi⟩ := DataW.trod_int Try.underlying3 g1
    obtain ⟨l, hl, e2⟩ := trod_sum arrSum.hu Try.underlying5 arrSum.one arrSum.size g2
    obtain ⟨V, ps, e3, hV⟩ := trod_sums Try.underlying42 arrSum Try.underlying5 g3
    refine ⟨L0, ls, i, l, V, ps, ?_, hls, wi, hl, hV⟩
    have a3 : L.drop 34 = (L.drop 34).take 1 := (List.take_of_length_le (by simp; omega)).symm
    rw [e3] at a3
    have a2 := cut_at L 2 32 a3
    rw [e2] at a2
    have a1 := cut_at L 1 1 a2
    rw [e1] at a1
    have a0 := cut_at L 0 1 a1
    rw [e0, List.drop_zero] at a0
    rw [a0]
    rfl
set_option maxRecDepth 100000 in
theorem open_first (hv : Value.okWide Try.prog w r b0 89 v) (h : DataW.Trod enc Try.prog w base (fun _ => true) held 89 v d p) :
    ∃ (L : Value) (ls : List Dg) (i : Int) (l : Dg) (V : Value) (ps : List Dg), v = .agg ([L, .int .i64 i] ++ (l.map B8 ++ [V])).toArray ∧ SS w L ls ∧ (Lit.int .i64 i).wf = true ∧ l.length = 32 ∧ SS w V ps := by
  obtain ⟨cs, rfl, hsz⟩ := okWide_struct Try.underlying89 hv
  have h67 : Try.prog.cellsOf 89 = 35 := by kernel_rfl
  obtain ⟨fuel, hf⟩ := h
  obtain ⟨xs, n, _, _, _, hxl, hel⟩ := DataW.trod_struct Try.underlying89 hf
  simp only [Value.cells] at hel
  rw [h67] at hsz
  obtain ⟨L, rfl⟩ : ∃ L : List Value, cs = L.toArray := ⟨cs.toList, rfl⟩
  have hL : L.length = 35 := by simpa using hsz
  have g0 := hel 0 _ rfl
  have g1 := hel 1 _ rfl
  have g2 := hel 2 _ rfl
  have g3 := hel 3 _ rfl
  match xs, hxl with
  | [x0, x1, x2, x3], _ =>
    change DataW.trod enc Try.prog w base (fun _ => true) held _ 42 ((L.drop 0).take (Try.prog.cellsOf 42)) = some x0 at g0
    rw [cells_sums] at g0
    change DataW.trod enc Try.prog w base (fun _ => true) held _ 3 ((L.drop 1).take (Try.prog.cellsOf 3)) = some x1 at g1
    rw [cells_int] at g1
    change DataW.trod enc Try.prog w base (fun _ => true) held _ 26 ((L.drop 2).take (Try.prog.cellsOf 26)) = some x2 at g2
    rw [cells_sum] at g2
    change DataW.trod enc Try.prog w base (fun _ => true) held _ 42 ((L.drop 34).take (Try.prog.cellsOf 42)) = some x3 at g3
    rw [cells_sums] at g3
    obtain ⟨L0, ls, e0, hls⟩ := trod_sums Try.underlying42 arrSum Try.underlying5 g0
    obtain ⟨i, e1, _, wi⟩ := DataW.trod_int Try.underlying3 g1
    obtain ⟨l, hl, e2⟩ := trod_sum arrSum.hu Try.underlying5 arrSum.one arrSum.size g2
    obtain ⟨V, ps, e3, hV⟩ := trod_sums Try.underlying42 arrSum Try.underlying5 g3
    refine ⟨L0, ls, i, l, V, ps, ?_, hls, wi, hl, hV⟩
    have a3 : L.drop 34 = (L.drop 34).take 1 := (List.take_of_length_le (by simp; omega)).symm
    rw [e3] at a3
    have a2 := cut_at L 2 32 a3
    rw [e2] at a2
    have a1 := cut_at L 1 1 a2
    rw [e1] at a1
    have a0 := cut_at L 0 1 a1
    rw [e0, List.drop_zero] at a0
    rw [a0]
    rfl
set_option maxRecDepth 100000 in
theorem open_extending (hv : Value.okWide Try.prog w r b0 85 v) (h : DataW.Trod enc Try.prog w base (fun _ => true) held 85 v d p) :
    ∃ (m n : Int) (o rt : Dg) (V : Value) (ps : List Dg), v = .agg ([Value.int .i64 m, .int .i64 n] ++ (o.map B8 ++ (rt.map B8 ++ [V]))).toArray ∧ (Lit.int .i64 m).wf = true ∧ (Lit.int .i64 n).wf = true ∧ o.length = 32 ∧ rt.length = 32 ∧ SS w V ps := by
  obtain ⟨cs, rfl, hsz⟩ := okWide_struct Try.underlying85 hv
  have h67 : Try.prog.cellsOf 85 = 67 := by kernel_rfl
  obtain ⟨fuel, hf⟩ := h
  obtain ⟨xs, n, _, _, _, hxl, hel⟩ := DataW.trod_struct Try.underlying85 hf
  simp only [Value.cells] at hel
  rw [h67] at hsz
  obtain ⟨L, rfl⟩ : ∃ L : List Value, cs = L.toArray := ⟨cs.toList, rfl⟩
  have hL : L.length = 67 := by simpa using hsz
  have g0 := hel 0 _ rfl
  have g1 := hel 1 _ rfl
  have g2 := hel 2 _ rfl
  have g3 := hel 3 _ rfl
  have g4 := hel 4 _ rfl
  match xs, hxl with
  | [x0, x1, x2, x3, x4], _ =>
    change DataW.trod enc Try.prog w base (fun _ => true) held _ 3 ((L.drop 0).take (Try.prog.cellsOf 3)) = some x0 at g0
    rw [cells_int] at g0
    change DataW.trod enc Try.prog w base (fun _ => true) held _ 3 ((L.drop 1).take (Try.prog.cellsOf 3)) = some x1 at g1
    rw [cells_int] at g1
    change DataW.trod enc Try.prog w base (fun _ => true) held _ 26 ((L.drop 2).take (Try.prog.cellsOf 26)) = some x2 at g2
    rw [cells_sum] at g2
    change DataW.trod enc Try.prog w base (fun _ => true) held _ 26 ((L.drop 34).take (Try.prog.cellsOf 26)) = some x3 at g3
    rw [cells_sum] at g3
    change DataW.trod enc Try.prog w base (fun _ => true) held _ 42 ((L.drop 66).take (Try.prog.cellsOf 42)) = some x4 at g4
    rw [cells_sums] at g4
    obtain ⟨m, e0, _, wm⟩ := DataW.trod_int Try.underlying3 g0
    obtain ⟨k, e1, _, wk⟩ := DataW.trod_int Try.underlying3 g1
    obtain ⟨o, ho, e2⟩ := trod_sum arrSum.hu Try.underlying5 arrSum.one arrSum.size g2
    obtain ⟨rt, hrt, e3⟩ := trod_sum arrSum.hu Try.underlying5 arrSum.one arrSum.size g3
    obtain ⟨V, ps, e4, hV⟩ := trod_sums Try.underlying42 arrSum Try.underlying5 g4
    refine ⟨m, k, o, rt, V, ps, ?_, wm, wk, ho, hrt, hV⟩
    have a4 : L.drop 66 = (L.drop 66).take 1 := (List.take_of_length_le (by simp; omega)).symm
    rw [e4] at a4
    have a3 := cut_at L 34 32 a4
    rw [e3] at a3
    have a2 := cut_at L 2 32 a3
    rw [e2] at a2
    have a1 := cut_at L 1 1 a2
    rw [e1] at a1
    have a0 := cut_at L 0 1 a1
    rw [e0, List.drop_zero] at a0
    rw [a0]
    rfl
end
end Go.Proofs.Ytkcmacglomdfcaa

/-
  THE WALK of the law ProofCome.
-/
namespace Go.Proofs.Ytkcmacglomdfcaa
open Go.RowKit

theorem comes_any (w : World) (d r : Dg) (hd : d.length = 32) (hr : r.length = 32) (V : Value) (ps : List Dg) (hV : SS w V ps) (i n : Int) :
    Calls Try.prog 64 #[SumV d, .int .i64 i, .int .i64 n, V, SumV r] w fun e w' => e = .returned (.bool true) ∧ Below w.heap.size w w' := by
  obtain ⟨A, m, c, rfl, hmc, hcm, hps⟩ := hV
  by_cases hm : 100 < m
  · exact comes_big w d r A m c i n hm
  · by_cases h : 1 ≤ n ∧ n ≤ 1048576 ∧ 0 ≤ i ∧ i < n
    · obtain ⟨n', rfl⟩ : ∃ n' : Nat, n = (n' : Int) := ⟨n.toNat, by omega⟩
      obtain ⟨i', rfl⟩ : ∃ i' : Nat, i = (i' : Int) := ⟨i.toNat, by omega⟩
      by_cases hl : m = (turns i' n').length
      · exact comes_yes w d r hd hr A m c i' n' (by omega) (by omega) ps hps hmc hcm hm hl
      · exact comes_len w d r hd hr A m c i' n' (by omega) (by omega) hm hl
    · exact comes_range w d r hd hr A m c i n hm h
theorem range_app {w : World} {g o : Nat} {a b : List Value} (h : w.rangeAt g o (a ++ b)) : w.rangeAt g o a ∧ w.rangeAt g (o + a.length) b := by
  refine ⟨fun j v hv => h j v ?_, fun j v hv => ?_⟩
  · have hj := (List.getElem?_eq_some_iff.1 hv).1
    rw [List.getElem?_append_left hj]; exact hv
  · have := h (a.length + j) v (by rw [List.getElem?_append_right (by omega), Nat.add_sub_cancel_left]; exact hv)
    rw [Nat.add_assoc]; exact this
theorem range_cell {w : World} {g o : Nat} {v : Value} {b : List Value} (h : w.rangeAt g o (v :: b)) : w.cell? ⟨g, o, none⟩ = some v := by
  have := h 0 v rfl
  exact this
set_option maxRecDepth 100000 in
set_option maxHeartbeats 2000000 in
theorem proofCome_law (w : World) (l : Dg) (hl : l.length = 32) (i n : Int) (V : Value) (ps : List Dg) (hV : SS w V ps) (rt : Dg) (hrt : rt.length = 32) :
    Calls Try.prog 15 #[.agg (l.map B8 ++ ([.int .i64 i, .int .i64 n, V] ++ rt.map B8)).toArray] w fun e w' => e = .returned (.bool true) ∧ Below w.heap.size w w' := by
  obtain ⟨cs, hcs⟩ : ∃ cs, cs = l.map B8 ++ ([.int .i64 i, .int .i64 n, V] ++ rt.map B8) := ⟨_, rfl⟩
  rw [← hcs]
  have hX : Hid (∀ W, W = w.alloc (.cells cs.toArray 78) → Below w.heap.size w W ∧ W.rangeAt w.heap.size 0 (l.map B8) ∧ W.cell? ⟨w.heap.size, 32, none⟩ = some (.int .i64 i) ∧ W.cell? ⟨w.heap.size, 33, none⟩ = some (.int .i64 n) ∧ W.cell? ⟨w.heap.size, 34, none⟩ = some V ∧ W.rangeAt w.heap.size 35 (rt.map B8)) := Lib.hid (by
    rintro W rfl
    have h0 : (w.alloc (.cells cs.toArray 78)).rangeAt w.heap.size 0 cs := rangeAt_at _ _ _ _ _ rfl
    have hb : Below w.heap.size w (w.alloc (.cells cs.toArray 78)) := (Below.refl _ _).alloc (Nat.le_refl _) _
    generalize w.alloc (.cells cs.toArray 78) = W at *
    rw [hcs] at h0
    obtain ⟨h1, h2⟩ := range_app h0
    obtain ⟨h2, h3⟩ := range_app h2
    rw [List.length_map, hl] at h2 h3
    have c1 := range_app (a := [.int .i64 i]) (b := [.int .i64 n, V]) h2
    have c2 := range_app (a := [.int .i64 n]) (b := [V]) c1.2
    exact ⟨hb, h1, range_cell c1.1, range_cell c2.1, range_cell c2.2, h3⟩)
  have hC := fun u (hu : SS u V ps) => comes_any u l rt hl hrt V ps hu i n
  have HC := Lib.hid hC
  have HV := Lib.hid hV
  have hi1 := info_of l hl
  have hi2 := info_of rt hrt
  clear hcs hC hV hl hrt
  unfold SumV at HC
  go_enter Try.func15, Try.ntmps15
  go_wp2_with (first
    | ((with_reducible show wpList _ _ _ (⟨_, Op.load 26 (.tmp 3), _, _, _, _⟩ :: _) _ _); obtain ⟨W, hW⟩ : ∃ W, W = w.alloc (.cells cs.toArray 78) := ⟨_, rfl⟩; obtain ⟨hb, h1, c1, c2, c3, h2⟩ := hX.out W hW; rw [← hW]; clear hW; refine wpList_load_mid rfl _ _ rfl w.heap.size 0 rfl (l.map B8) _ h1 Try.underlying26 rfl hi1 ?_; simp only [Act.put, List.setIfInBounds_toArray, List.set_cons_zero, List.set_cons_succ])
    | ((with_reducible show wpList _ _ _ (⟨_, Op.load 26 (.tmp 11), _, _, _, _⟩ :: _) _ _); refine wpList_load_mid rfl _ _ rfl w.heap.size 35 rfl (rt.map B8) _ h2 Try.underlying26 rfl hi2 ?_; simp only [Act.put, List.setIfInBounds_toArray, List.set_cons_zero, List.set_cons_succ]))
  refine (HC.out W (HV.out.below hb)).mono ?_
  rintro e w9 ⟨rfl, hb9⟩
  go_wp2_with fail
  go_ret
  exact ⟨rfl, hb.trans (hb9.mono hb.size)⟩
end Go.Proofs.Ytkcmacglomdfcaa
