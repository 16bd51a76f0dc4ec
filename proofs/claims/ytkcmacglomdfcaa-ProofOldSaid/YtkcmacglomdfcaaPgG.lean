/-
  THE WALKS of the document's Extends, and of the law ProofExtends.
-/
import Derived.Test.YtkcmacglomdfcaaPhC
import Derived.Test.YtkcmacglomdfcaaPgE
import Derived.Test.YtkcmacglomdfcaaPgBC
namespace Go.Proofs.Ytkcmacglomdfcaa
open Go.RowKit

set_option maxRecDepth 100000 in
set_option maxHeartbeats 1000000 in
theorem refextends_bad (w : World) (m n : Int) (h : ¬ (1 ≤ n ∧ n ≤ 1048576 ∧ 1 ≤ m ∧ m ≤ n)) (old root : Dg) (V : Value) :
    Calls Try.prog 67 #[.int .i64 m, .int .i64 n, SumV old, SumV root, V] w fun e w' => e = .returned (.bool false) ∧ Below w.heap.size w w' := by
  have HX := two_boxesE w old root
  have Hh := Lib.hid h
  clear h
  unfold SumV
  by_cases q1 : n < 1
  · have d1 : decide (n < 1) = true := decide_eq_true q1
    go_enter Try.func67, Try.ntmps67
    go_wp2
    go_ret
    exact ⟨rfl, (HX.out _ _ rfl rfl _ rfl).below⟩
  · have d1 : decide (n < 1) = false := decide_eq_false q1
    by_cases q2 : 1048576 < n
    · have d2 : decide (1048576 < n) = true := decide_eq_true q2
      go_enter Try.func67, Try.ntmps67
      go_wp2
      go_ret
      exact ⟨rfl, (HX.out _ _ rfl rfl _ rfl).below⟩
    · have d2 : decide (1048576 < n) = false := decide_eq_false q2
      by_cases q3 : m < 1
      · have d3 : decide (m < 1) = true := decide_eq_true q3
        go_enter Try.func67, Try.ntmps67
        go_wp2
        go_ret
        exact ⟨rfl, (HX.out _ _ rfl rfl _ rfl).below⟩
      · have d3 : decide (m < 1) = false := decide_eq_false q3
        have d4 : decide (n < m) = true := decide_eq_true (by have := Hh.out; omega)
        go_enter Try.func67, Try.ntmps67
        go_wp2
        go_ret
        exact ⟨rfl, (HX.out _ _ rfl rfl _ rfl).below⟩
section
variable {F : List UInt8 → List UInt8} (HF : Dig F)
include HF
set_option maxRecDepth 100000 in
set_option maxHeartbeats 4000000 in
theorem refextends_in (w : World) (m n : Nat) (h0 : 1 ≤ m) (hm : m ≤ n) (hn : n ≤ 1048576) (old root : Dg) (ho : old.length = 32) (hrt : root.length = 32) (B : Option Addr) (k c : Nat) (ps : List Dg) (hs : RS w B k ps) (hkc : k ≤ c) (hcm : c ≤ maxLen) :
    Calls Try.prog 67 #[.int .i64 (m : Int), .int .i64 (n : Int), SumV old, SumV root, .slice B k c] w fun e w' => e = .returned (.bool (decide (k = needsF m n true) && ((bothF F m n true old ps).1 == old && (bothF F m n true old ps).2 == root))) ∧ Below w.heap.size w w' := by
  have HX := two_boxesE w old root
  have d1 : decide ((n : Int) < 1) = false := decide_eq_false (by omega)
  have d2 : decide ((1048576 : Int) < (n : Int)) = false := decide_eq_false (by omega)
  have d3 : decide ((m : Int) < 1) = false := decide_eq_false (by omega)
  have d4 : decide ((n : Int) < (m : Int)) = false := decide_eq_false (by omega)
  have d4' : decide (n < m) = false := decide_eq_false (by omega)
  have hnd := fun w => refneeds_any n n (Nat.le_refl _) w m true h0 hm hn
  obtain ⟨N, hN⟩ : ∃ N, N = needsF m n true := ⟨_, rfl⟩
  rw [← hN] at hnd ⊢
  have Hnd := Lib.hid hnd
  clear hnd
  by_cases hk : k = N
  · have hb32 := bothF_32 HF.len (m := m) (n := n) (all := true) (old := old) ho hs.2.1 (by rw [hs.len, hk, hN])
    have hRB := fun u (hu : Below w.heap.size w u) => refboth_any HF n n (Nat.le_refl _) u m true old B k c ps ho h0 hm hn (hs.below hu) hkc hcm (by rw [hk, hN])
    obtain ⟨x, hx⟩ : ∃ x, x = (bothF F m n true old ps).1 := ⟨_, rfl⟩
    obtain ⟨y, hy⟩ : ∃ y, y = (bothF F m n true old ps).2 := ⟨_, rfl⟩
    rw [← hx, ← hy] at hb32 hRB ⊢
    have hx32 := hb32.1
    have hy32 := hb32.2
    have HRB : Hid (∀ u, Below w.heap.size w u → Calls Try.prog 96 #[.int .i64 (m : Int), .int .i64 (n : Int), .bool true, .agg (old.map B8).toArray, .slice B k c] u fun e w' => ∃ V, e = .returned (.tuple #[.agg (x.map B8).toArray, .agg (y.map B8).toArray, V]) ∧ Below u.heap.size u w') := Lib.hid fun u hu =>
      (hRB u hu).mono fun e w' ⟨A, c', us, he, _, _, hb⟩ => ⟨_, he, hb⟩
    have hkd : decide (k = N) = true := decide_eq_true hk
    rw [hkd, Bool.true_and]
    have hkk : ((k : Int) != (N : Int)) = false := by rw [hk]; simp
    have heq1 := fun w => run_eql_sum w x old hx32 ho
    have heq2 := fun w => run_eql_sum w y root hy32 hrt
    have hio := info_of old ho
    have hir := info_of root hrt
    have hix := info_of x hx32
    have hix' := info_of' x hx32
    have hiy := info_of y hy32
    have hiy' := info_of' y hy32
    have H32 := Lib.hid (And.intro hx32 hy32)
    clear hs hRB hx hy hb32 hx32 hy32 hkd hk hN ho hrt
    unfold SumV
    cases hz : (x == old) with
    | false =>
      rw [hz] at heq1
      clear hz
      go_enter Try.func67, Try.ntmps67
      go_wp2_with (first
        | (go_at_call 95; refine (Hnd.out _).mono ?_; rintro e w' ⟨rfl, rfl⟩)
        | ((with_reducible show wpList _ _ _ (⟨_, Op.load 26 (.tmp 7), _, _, _, _⟩ :: _) _ _); refine wpList_load_mid rfl _ _ rfl w.heap.size 0 rfl (old.map B8) _ (HX.out _ _ rfl rfl _ rfl).r0 Try.underlying26 rfl hio ?_; simp only [Act.put, List.setIfInBounds_toArray, List.set_cons_zero, List.set_cons_succ]))
      refine (HRB.out _ (HX.out _ _ rfl rfl _ rfl).below).mono ?_
      rintro e w3 ⟨V3, rfl, hb3⟩
      have H3 := Lib.hid ((HX.out _ _ rfl rfl _ rfl).stable hb3)
      clear hb3
      go_wp2_with (first
        | ((with_reducible show wpList _ _ _ (⟨_, Op.store 26 (.tmp 11) _, _, _, _, _⟩ :: _) _ _); obtain ⟨W2, hW2⟩ : ∃ W2, W2 = (w3.alloc (.cells #[.int .u8 0, .int .u8 0, .int .u8 0, .int .u8 0, .int .u8 0, .int .u8 0, .int .u8 0, .int .u8 0, .int .u8 0, .int .u8 0, .int .u8 0, .int .u8 0, .int .u8 0, .int .u8 0, .int .u8 0, .int .u8 0, .int .u8 0, .int .u8 0, .int .u8 0, .int .u8 0, .int .u8 0, .int .u8 0, .int .u8 0, .int .u8 0, .int .u8 0, .int .u8 0, .int .u8 0, .int .u8 0, .int .u8 0, .int .u8 0, .int .u8 0, .int .u8 0] 26)).alloc (.cells #[.int .u8 0, .int .u8 0, .int .u8 0, .int .u8 0, .int .u8 0, .int .u8 0, .int .u8 0, .int .u8 0, .int .u8 0, .int .u8 0, .int .u8 0, .int .u8 0, .int .u8 0, .int .u8 0, .int .u8 0, .int .u8 0, .int .u8 0, .int .u8 0, .int .u8 0, .int .u8 0, .int .u8 0, .int .u8 0, .int .u8 0, .int .u8 0, .int .u8 0, .int .u8 0, .int .u8 0, .int .u8 0, .int .u8 0, .int .u8 0, .int .u8 0, .int .u8 0] 26) := ⟨_, rfl⟩; have HM := Lib.hid ((two_made w3).out _ rfl W2 hW2); rw [← hW2]; clear hW2; have hth3 : W2.there w3.heap.size 0 (x.map B8).toArray.size := sz_there H32.out.1 HM.out.2.1; refine wpList_store_row rfl _ _ _ rfl w3.heap.size 0 (x.map B8).toArray rfl rfl (hth3) hix' (b8_all x) ?_; intro w4 hg4 hs4 ht4 hth4; rw [List.toList_toArray] at ht4; have hth5 : w4.there (w3.heap.size + 1) 0 (y.map B8).toArray.size := sz_there H32.out.2 (there_grown HM.out.2.2 (by decide) hg4 (by simp)); have H4 := Lib.hid (And.intro (HM.out.1.grown hg4 HM.out.1.size (by intro k hk; cases hk; exact Nat.le_refl _)) ht4); clear hg4 hs4 ht4 hth4 hth3)
        | ((with_reducible show wpList _ _ _ (⟨_, Op.store 26 (.tmp 12) _, _, _, _, _⟩ :: _) _ _); refine wpList_store_row rfl _ _ _ rfl (w3.heap.size + 1) 0 (y.map B8).toArray rfl rfl (hth5) hiy' (b8_all y) ?_; intro w5 hg5 hs5 ht5 hth5; rw [List.toList_toArray] at ht5; have H5 := Lib.hid (And.intro (H3.out.stable (H4.out.1.grown hg5 H4.out.1.size (by intro k hk; cases hk; omega))) (And.intro (rangeAt_grown H4.out.2 hg5 (by simp)) ht5)); clear hg5 hs5 ht5 hth5)
        | ((with_reducible show wpList _ _ _ (⟨_, Op.load 26 (.tmp 11), _, _, _, _⟩ :: _) _ _); refine wpList_load_mid rfl _ _ rfl w3.heap.size 0 rfl (x.map B8) _ H5.out.2.1 Try.underlying26 rfl hix ?_; simp only [Act.put, List.setIfInBounds_toArray, List.set_cons_zero, List.set_cons_succ])
        | ((with_reducible show wpList _ _ _ (⟨_, Op.load 26 (.tmp 7), _, _, _, _⟩ :: _) _ _); refine wpList_load_mid rfl _ _ rfl w.heap.size 0 rfl (old.map B8) _ H5.out.1.r0 Try.underlying26 rfl hio ?_; simp only [Act.put, List.setIfInBounds_toArray, List.set_cons_zero, List.set_cons_succ]))
      go_ret
      exact ⟨rfl, H5.out.1.below⟩
    | true =>
      rw [hz] at heq1
      clear hz
      go_enter Try.func67, Try.ntmps67
      go_wp2_with (first
        | (go_at_call 95; refine (Hnd.out _).mono ?_; rintro e w' ⟨rfl, rfl⟩)
        | ((with_reducible show wpList _ _ _ (⟨_, Op.load 26 (.tmp 7), _, _, _, _⟩ :: _) _ _); refine wpList_load_mid rfl _ _ rfl w.heap.size 0 rfl (old.map B8) _ (HX.out _ _ rfl rfl _ rfl).r0 Try.underlying26 rfl hio ?_; simp only [Act.put, List.setIfInBounds_toArray, List.set_cons_zero, List.set_cons_succ]))
      refine (HRB.out _ (HX.out _ _ rfl rfl _ rfl).below).mono ?_
      rintro e w3 ⟨V3, rfl, hb3⟩
      have H3 := Lib.hid ((HX.out _ _ rfl rfl _ rfl).stable hb3)
      clear hb3
      go_wp2_with (first
        | ((with_reducible show wpList _ _ _ (⟨_, Op.store 26 (.tmp 11) _, _, _, _, _⟩ :: _) _ _); obtain ⟨W2, hW2⟩ : ∃ W2, W2 = (w3.alloc (.cells #[.int .u8 0, .int .u8 0, .int .u8 0, .int .u8 0, .int .u8 0, .int .u8 0, .int .u8 0, .int .u8 0, .int .u8 0, .int .u8 0, .int .u8 0, .int .u8 0, .int .u8 0, .int .u8 0, .int .u8 0, .int .u8 0, .int .u8 0, .int .u8 0, .int .u8 0, .int .u8 0, .int .u8 0, .int .u8 0, .int .u8 0, .int .u8 0, .int .u8 0, .int .u8 0, .int .u8 0, .int .u8 0, .int .u8 0, .int .u8 0, .int .u8 0, .int .u8 0] 26)).alloc (.cells #[.int .u8 0, .int .u8 0, .int .u8 0, .int .u8 0, .int .u8 0, .int .u8 0, .int .u8 0, .int .u8 0, .int .u8 0, .int .u8 0, .int .u8 0, .int .u8 0, .int .u8 0, .int .u8 0, .int .u8 0, .int .u8 0, .int .u8 0, .int .u8 0, .int .u8 0, .int .u8 0, .int .u8 0, .int .u8 0, .int .u8 0, .int .u8 0, .int .u8 0, .int .u8 0, .int .u8 0, .int .u8 0, .int .u8 0, .int .u8 0, .int .u8 0, .int .u8 0] 26) := ⟨_, rfl⟩; have HM := Lib.hid ((two_made w3).out _ rfl W2 hW2); rw [← hW2]; clear hW2; have hth3 : W2.there w3.heap.size 0 (x.map B8).toArray.size := sz_there H32.out.1 HM.out.2.1; refine wpList_store_row rfl _ _ _ rfl w3.heap.size 0 (x.map B8).toArray rfl rfl (hth3) hix' (b8_all x) ?_; intro w4 hg4 hs4 ht4 hth4; rw [List.toList_toArray] at ht4; have hth5 : w4.there (w3.heap.size + 1) 0 (y.map B8).toArray.size := sz_there H32.out.2 (there_grown HM.out.2.2 (by decide) hg4 (by simp)); have H4 := Lib.hid (And.intro (HM.out.1.grown hg4 HM.out.1.size (by intro k hk; cases hk; exact Nat.le_refl _)) ht4); clear hg4 hs4 ht4 hth4 hth3)
        | ((with_reducible show wpList _ _ _ (⟨_, Op.store 26 (.tmp 12) _, _, _, _, _⟩ :: _) _ _); refine wpList_store_row rfl _ _ _ rfl (w3.heap.size + 1) 0 (y.map B8).toArray rfl rfl (hth5) hiy' (b8_all y) ?_; intro w5 hg5 hs5 ht5 hth5; rw [List.toList_toArray] at ht5; have H5 := Lib.hid (And.intro (H3.out.stable (H4.out.1.grown hg5 H4.out.1.size (by intro k hk; cases hk; omega))) (And.intro (rangeAt_grown H4.out.2 hg5 (by simp)) ht5)); clear hg5 hs5 ht5 hth5)
        | ((with_reducible show wpList _ _ _ (⟨_, Op.load 26 (.tmp 11), _, _, _, _⟩ :: _) _ _); refine wpList_load_mid rfl _ _ rfl w3.heap.size 0 rfl (x.map B8) _ H5.out.2.1 Try.underlying26 rfl hix ?_; simp only [Act.put, List.setIfInBounds_toArray, List.set_cons_zero, List.set_cons_succ])
        | ((with_reducible show wpList _ _ _ (⟨_, Op.load 26 (.tmp 7), _, _, _, _⟩ :: _) _ _); refine wpList_load_mid rfl _ _ rfl w.heap.size 0 rfl (old.map B8) _ H5.out.1.r0 Try.underlying26 rfl hio ?_; simp only [Act.put, List.setIfInBounds_toArray, List.set_cons_zero, List.set_cons_succ])
        | ((with_reducible show wpList _ _ _ (⟨_, Op.load 26 (.tmp 12), _, _, _, _⟩ :: _) _ _); refine wpList_load_midW rfl _ _ rfl (w3.heap.size + 1) 0 rfl (y.map B8) _ H5.out.2.2 Try.underlying26 rfl hiy ?_; simp only [Act.put, List.setIfInBounds_toArray, List.set_cons_zero, List.set_cons_succ])
        | ((with_reducible show wpList _ _ _ (⟨_, Op.load 26 (.tmp 8), _, _, _, _⟩ :: _) _ _); refine wpList_load_midW rfl _ _ rfl (w.heap.size + 1) 0 rfl (root.map B8) _ H5.out.1.r1 Try.underlying26 rfl hir ?_; simp only [Act.put, List.setIfInBounds_toArray, List.set_cons_zero, List.set_cons_succ]))
      go_ret
      exact ⟨rfl, H5.out.1.below⟩
  · have hkd : decide (k = N) = false := decide_eq_false hk
    rw [hkd, Bool.false_and]
    have hkk : ((k : Int) != (N : Int)) = true := by simp; omega
    clear hs hkd hk hN ho hrt
    unfold SumV
    go_enter Try.func67, Try.ntmps67
    go_wp2_with (go_at_call 95; refine (Hnd.out _).mono ?_; rintro e w' ⟨rfl, rfl⟩)
    go_ret
    exact ⟨rfl, (HX.out _ _ rfl rfl _ rfl).below⟩
/-- Both Extends answer alike. -/
theorem extends_alike (w : World) (m n : Int) (old root : Dg) (ho : old.length = 32) (hrt : root.length = 32) (B : Option Addr) (k c : Nat) (ps : List Dg) (hs : RS w B k ps) (hkc : k ≤ c) (hcm : c ≤ maxLen) :
    ∃ q, (∀ u, Below w.heap.size w u → Calls Try.prog 66 #[.int .i64 m, .int .i64 n, SumV old, SumV root, .slice B k c] u fun e w' => e = .returned (.bool q) ∧ Below u.heap.size u w') ∧
      ∀ u, Below w.heap.size w u → Calls Try.prog 67 #[.int .i64 m, .int .i64 n, SumV old, SumV root, .slice B k c] u fun e w' => e = .returned (.bool q) ∧ Below u.heap.size u w' := by
  by_cases h : 1 ≤ n ∧ n ≤ 1048576 ∧ 1 ≤ m ∧ m ≤ n
  · obtain ⟨n', rfl⟩ : ∃ n' : Nat, n = (n' : Int) := ⟨n.toNat, by omega⟩
    obtain ⟨m', rfl⟩ : ∃ m' : Nat, m = (m' : Int) := ⟨m.toNat, by omega⟩
    refine ⟨_, fun u hu => ?_, fun u hu => refextends_in HF u m' n' (by omega) (by omega) (by omega) old root ho hrt B k c ps (hs.below hu) hkc hcm⟩
    by_cases hk : k = needsF m' n' true
    · rw [decide_eq_true hk, Bool.true_and]
      exact extends_yes HF u m' n' (by omega) (by omega) (by omega) old root ho hrt B k c ps (hs.below hu) hkc hk
    · rw [decide_eq_false hk, Bool.false_and]
      exact extends_len u m' n' (by omega) (by omega) (by omega) old root ho B k c ps (hs.below hu) hkc hcm hk
  · exact ⟨false, fun u _ => extends_bad u m n h old root _, fun u _ => refextends_bad u m n h old root _⟩
end
/-- The struct in its variable. -/
structure StX (w : World) (m n : Int) (o r : Dg) (V : Value) (u : World) : Prop where
  below : Below w.heap.size w u
  c0 : u.cell? ⟨w.heap.size, 0, none⟩ = some (.int .i64 m)
  c1 : u.cell? ⟨w.heap.size, 1, none⟩ = some (.int .i64 n)
  r2 : u.rangeAt w.heap.size 2 (o.map B8)
  r34 : u.rangeAt w.heap.size 34 (r.map B8)
  c66 : u.cell? ⟨w.heap.size, 66, none⟩ = some V
  sz : w.heap.size < u.heap.size
theorem StX.stable {w u u' : World} {m n : Int} {o r : Dg} {V : Value} (h : StX w m n o r V u) (hb : Below u.heap.size u u') : StX w m n o r V u' := by
  have hc : ∀ j, u'.cell? ⟨w.heap.size, j, none⟩ = u.cell? ⟨w.heap.size, j, none⟩ := fun j => World.cell?_of_block (w := u) (a := ⟨w.heap.size, j, none⟩) (hb.block _ h.sz)
  exact ⟨h.below.trans (hb.mono h.below.size), by rw [hc]; exact h.c0, by rw [hc]; exact h.c1, rangeAt_below' h.r2 hb, rangeAt_below' h.r34 hb, by rw [hc]; exact h.c66, Nat.lt_of_lt_of_le h.sz hb.size⟩
set_option maxRecDepth 100000 in
set_option maxHeartbeats 4000000 in
theorem proofExtends_law (w : World) (m n : Int) (o r : Dg) (V : Value) (ps : List Dg) (ho : o.length = 32) (hr : r.length = 32) (hV : SS w V ps) :
    Calls Try.prog 17 #[.agg ([Value.int .i64 m, .int .i64 n] ++ (o.map B8 ++ (r.map B8 ++ [V]))).toArray] w fun e w' => e = .returned (.bool true) ∧ Below w.heap.size w w' := by
  have HA := Lib.hid alive10_any
  obtain ⟨cs, hcs⟩ : ∃ cs, cs = [Value.int .i64 m, .int .i64 n] ++ (o.map B8 ++ (r.map B8 ++ [V])) := ⟨_, rfl⟩
  rw [← hcs]
  have hX : Hid (∀ W, W = w.alloc (.cells cs.toArray 85) → StX w m n o r V W) := Lib.hid (by
    rintro W rfl
    have h0 : (w.alloc (.cells cs.toArray 85)).rangeAt w.heap.size 0 cs := rangeAt_at _ _ _ _ _ rfl
    have hb : Below w.heap.size w (w.alloc (.cells cs.toArray 85)) := (Below.refl _ _).alloc (Nat.le_refl _) _
    have hsz : w.heap.size < (w.alloc (.cells cs.toArray 85)).heap.size := by simp
    generalize w.alloc (.cells cs.toArray 85) = W at *
    rw [hcs] at h0
    obtain ⟨h1, h2⟩ := range_app h0
    obtain ⟨h2, h3⟩ := range_app h2
    obtain ⟨h3, h4⟩ := range_app h3
    rw [List.length_map, ho] at h3 h4
    rw [List.length_map, hr] at h4
    have c1 := range_app (a := [.int .i64 m]) (b := [.int .i64 n]) h1
    exact ⟨hb, range_cell c1.1, range_cell c1.2, h2, h3, range_cell h4, hsz⟩)
  obtain ⟨B, k, c, rfl, hkc, hcm, hs⟩ := hV
  obtain ⟨q, hq1, hq2⟩ := extends_alike dig w m n o r ho hr B k c ps hs hkc hcm
  unfold SumV at hq1 hq2
  have HQ1 : Hid (∀ u, StX w m n o r (.slice B k c) u → Calls Try.prog 66 #[.int .i64 m, .int .i64 n, .agg (o.map B8).toArray, .agg (r.map B8).toArray, .slice B k c] u fun e w' => e = .returned (.bool q) ∧ StX w m n o r (.slice B k c) w' ∧ Below u.heap.size u w') := Lib.hid fun u hu => (hq1 u hu.below).mono fun e w' ⟨h1, h2⟩ => ⟨h1, hu.stable h2, h2⟩
  have HQ2 : Hid (∀ u, StX w m n o r (.slice B k c) u → Calls Try.prog 67 #[.int .i64 m, .int .i64 n, .agg (o.map B8).toArray, .agg (r.map B8).toArray, .slice B k c] u fun e w' => e = .returned (.bool q) ∧ StX w m n o r (.slice B k c) w' ∧ Below u.heap.size u w') := Lib.hid fun u hu => (hq2 u hu.below).mono fun e w' ⟨h1, h2⟩ => ⟨h1, hu.stable h2, h2⟩
  have hio := info_of o ho
  have hir := info_of r hr
  clear hcs hq1 hq2 hs ho hr hcm hkc
  by_cases hbig : 100 < k
  · have db : decide ((100 : Int) < (k : Int)) = true := decide_eq_true (by omega)
    go_enter Try.func17, Try.ntmps17
    go_wp2_with fail
    refine (HA.out _).mono ?_
    rintro e w1 ⟨rfl, hb1⟩
    have h1 := (hX.out _ rfl).stable hb1
    have c66 := h1.c66
    clear hb1
    go_wp2_with fail
    go_ret
    exact ⟨rfl, h1.below⟩
  · have db : decide ((100 : Int) < (k : Int)) = false := decide_eq_false (by omega)
    have eg1 := enters_of Try.func66 (by kernel_rfl) rfl
    have eg2 := enters_of Try.func67 (by kernel_rfl) rfl
    go_enter Try.func17, Try.ntmps17
    go_wp2_with fail
    refine (HA.out _).mono ?_
    rintro e w1 ⟨rfl, hb1⟩
    have h1 := (hX.out _ rfl).stable hb1
    have c66 := h1.c66
    clear hb1
    go_wp2_with fail
    have hsd := h1.stable (below_drewN (Below.refl _ w1) 1)
    clear c66 h1
    refine wp_region_noPanic ?_
    refine wp_region_moves 23 (fun u => StX w m n o r (.slice B k c) u) (fun u u' => Below u.heap.size u u') (fun u => Below.refl _ _) (fun h k => h.trans (k.mono h.size)) (by kernel_rfl) (by kernel_rfl) hsd (fun _ _ _ _ _ h => h) ?_
    simp only [List.take_succ_cons, List.take_zero, List.drop_succ_cons, List.drop_zero]
    refine wpMH_pureW (fun u => Below.refl _ _) (by rfl) (.pointer (some ⟨w.heap.size, 0, none⟩)) (fun u hu => by go_simp) ?_
    simp only [Act.put, List.setIfInBounds_toArray, List.set_cons_zero, List.set_cons_succ]
    refine wpMH_pureW (fun u => Below.refl _ _) (by rfl) (.int .i64 m) (fun u hu => by have hc := StX.c0 hu; go_simp) ?_
    simp only [Act.put, List.setIfInBounds_toArray, List.set_cons_zero, List.set_cons_succ]
    refine wpMH_pureW (fun u => Below.refl _ _) (by rfl) (.pointer (some ⟨w.heap.size, 1, none⟩)) (fun u hu => by go_simp) ?_
    simp only [Act.put, List.setIfInBounds_toArray, List.set_cons_zero, List.set_cons_succ]
    refine wpMH_pureW (fun u => Below.refl _ _) (by rfl) (.int .i64 n) (fun u hu => by have hc := StX.c1 hu; go_simp) ?_
    simp only [Act.put, List.setIfInBounds_toArray, List.set_cons_zero, List.set_cons_succ]
    refine wpMH_pureW (fun u => Below.refl _ _) (by rfl) (.pointer (some ⟨w.heap.size, 2, none⟩)) (fun u hu => by go_simp) ?_
    simp only [Act.put, List.setIfInBounds_toArray, List.set_cons_zero, List.set_cons_succ]
    refine wpMH_loadW (fun u => Below.refl _ _) (by rfl) _ _ rfl w.heap.size 2 rfl (o.map B8) _ (fun u hu => hu.r2) Try.underlying26 rfl hio ?_
    simp only [Act.put, List.setIfInBounds_toArray, List.set_cons_zero, List.set_cons_succ]
    refine wpMH_pureW (fun u => Below.refl _ _) (by rfl) (.pointer (some ⟨w.heap.size, 34, none⟩)) (fun u hu => by go_simp) ?_
    simp only [Act.put, List.setIfInBounds_toArray, List.set_cons_zero, List.set_cons_succ]
    refine wpMH_loadW (fun u => Below.refl _ _) (by rfl) _ _ rfl w.heap.size 34 rfl (r.map B8) _ (fun u hu => hu.r34) Try.underlying26 rfl hir ?_
    simp only [Act.put, List.setIfInBounds_toArray, List.set_cons_zero, List.set_cons_succ]
    refine wpMH_pureW (fun u => Below.refl _ _) (by rfl) (.pointer (some ⟨w.heap.size, 66, none⟩)) (fun u hu => by go_simp) ?_
    simp only [Act.put, List.setIfInBounds_toArray, List.set_cons_zero, List.set_cons_succ]
    refine wpMH_pureW (fun u => Below.refl _ _) (by rfl) (.slice B k c) (fun u hu => by have hc := StX.c66 hu; go_simp) ?_
    simp only [Act.put, List.setIfInBounds_toArray, List.set_cons_zero, List.set_cons_succ]
    refine wpMH_callW (by rfl) 66 _ _ rfl eg1 [.int .i64 m, .int .i64 n, .agg (o.map B8).toArray, .agg (r.map B8).toArray, .slice B k c] rfl (.bool q) (fun u h => HQ1.out u h) ?_
    simp only [Act.put, List.setIfInBounds_toArray, List.set_cons_zero, List.set_cons_succ]
    refine wpMH_pureW (fun u => Below.refl _ _) (by rfl) (.pointer (some ⟨w.heap.size, 0, none⟩)) (fun u hu => by go_simp) ?_
    simp only [Act.put, List.setIfInBounds_toArray, List.set_cons_zero, List.set_cons_succ]
    refine wpMH_pureW (fun u => Below.refl _ _) (by rfl) (.int .i64 m) (fun u hu => by have hc := StX.c0 hu; go_simp) ?_
    simp only [Act.put, List.setIfInBounds_toArray, List.set_cons_zero, List.set_cons_succ]
    refine wpMH_pureW (fun u => Below.refl _ _) (by rfl) (.pointer (some ⟨w.heap.size, 1, none⟩)) (fun u hu => by go_simp) ?_
    simp only [Act.put, List.setIfInBounds_toArray, List.set_cons_zero, List.set_cons_succ]
    refine wpMH_pureW (fun u => Below.refl _ _) (by rfl) (.int .i64 n) (fun u hu => by have hc := StX.c1 hu; go_simp) ?_
    simp only [Act.put, List.setIfInBounds_toArray, List.set_cons_zero, List.set_cons_succ]
    refine wpMH_pureW (fun u => Below.refl _ _) (by rfl) (.pointer (some ⟨w.heap.size, 2, none⟩)) (fun u hu => by go_simp) ?_
    simp only [Act.put, List.setIfInBounds_toArray, List.set_cons_zero, List.set_cons_succ]
    refine wpMH_loadW (fun u => Below.refl _ _) (by rfl) _ _ rfl w.heap.size 2 rfl (o.map B8) _ (fun u hu => hu.r2) Try.underlying26 rfl hio ?_
    simp only [Act.put, List.setIfInBounds_toArray, List.set_cons_zero, List.set_cons_succ]
    refine wpMH_pureW (fun u => Below.refl _ _) (by rfl) (.pointer (some ⟨w.heap.size, 34, none⟩)) (fun u hu => by go_simp) ?_
    simp only [Act.put, List.setIfInBounds_toArray, List.set_cons_zero, List.set_cons_succ]
    refine wpMH_loadW (fun u => Below.refl _ _) (by rfl) _ _ rfl w.heap.size 34 rfl (r.map B8) _ (fun u hu => hu.r34) Try.underlying26 rfl hir ?_
    simp only [Act.put, List.setIfInBounds_toArray, List.set_cons_zero, List.set_cons_succ]
    refine wpMH_pureW (fun u => Below.refl _ _) (by rfl) (.pointer (some ⟨w.heap.size, 66, none⟩)) (fun u hu => by go_simp) ?_
    simp only [Act.put, List.setIfInBounds_toArray, List.set_cons_zero, List.set_cons_succ]
    refine wpMH_pureW (fun u => Below.refl _ _) (by rfl) (.slice B k c) (fun u hu => by have hc := StX.c66 hu; go_simp) ?_
    simp only [Act.put, List.setIfInBounds_toArray, List.set_cons_zero, List.set_cons_succ]
    refine wpMH_callW (by rfl) 67 _ _ rfl eg2 [.int .i64 m, .int .i64 n, .agg (o.map B8).toArray, .agg (r.map B8).toArray, .slice B k c] rfl (.bool q) (fun u h => HQ2.out u h) ?_
    simp only [Act.put, List.setIfInBounds_toArray, List.set_cons_zero, List.set_cons_succ]
    refine wpMH_pureW (fun u => Below.refl _ _) (by rfl) (.bool true) (fun u _ => by have hqq : (q == q) = true := beq_self_eq_true q; go_simp) ?_
    simp only [Act.put, List.setIfInBounds_toArray, List.set_cons_zero, List.set_cons_succ]
    refine wpMH_nil ?_
    refine wpMT_cons ?_
    intro u1 h1 hM
    go_wp2_with fail
    intro u2 h2 hM2
    refine NoPanic.normal ?_
    go_wp2_with fail
    go_ret
    exact ⟨rfl, h2.below⟩
end Go.Proofs.Ytkcmacglomdfcaa
