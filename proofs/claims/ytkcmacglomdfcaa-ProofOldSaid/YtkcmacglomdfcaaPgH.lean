/-
  THE WALK of the law ProofOld.
-/
import Derived.Test.YtkcmacglomdfcaaPgG
import Derived.Test.YtkcmacglomdfcaaPgD
namespace Go.Proofs.Ytkcmacglomdfcaa
open Go.RowKit

theorem foldT_65 {F : Dg → Dg} (hF : ∀ t, (F t).length = 32) : ∀ (ts : List Bool) (ps : List Dg) (x : Dg × Dg), x.1.length = 32 → x.2.length = 32 → (∀ p ∈ ps, p.length = 32) → ∀ t ∈ foldT F x ts ps, t.length = 65
  | [], ps, x, _, _, _ => by cases ps <;> (intro t ht; cases ht)
  | _ :: _, [], x, _, _, _ => by intro t ht; cases ht
  | b :: ts, p :: ps, x, h1, h2, hp => by
    intro t ht
    rw [foldT] at ht
    have hp1 := hp p (by simp)
    rcases List.mem_append.1 ht with h | h
    · cases b
      · simp at h
        rcases h with h | h <;> (subst h; simp [hp1, h1, h2])
      · simp at h
        subst h
        simp [hp1, h2]
    · cases b
      · exact foldT_65 hF ts ps (nodeF F p x.1, nodeF F p x.2) (hF _) (hF _) (fun p h => hp p (by simp [h])) t h
      · exact foldT_65 hF ts ps (x.1, nodeF F x.2 p) h1 (hF _) (fun p h => hp p (by simp [h])) t h
theorem bothT_65 {F : Dg → Dg} (hF : ∀ t, (F t).length = 32) {m n : Nat} {all : Bool} {old : Dg} {ps : List Dg} (h0 : old.length = 32) (hp : ∀ x ∈ ps, x.length = 32) (hl : ps.length = needsF m n all) : ∀ t ∈ bothT F m n all old ps, t.length = 65 := by
  have h : (startE m n all old ps).length = 32 := by
    rw [needsF] at hl
    rw [startE]
    split
    · exact h0
    · rename_i h1
      rw [if_neg h1] at hl
      cases ps with
      | nil => simp at hl
      | cons x r => exact hp x (by simp)
  refine foldT_65 hF _ _ _ h h fun p hp' => ?_
  rw [restE] at hp'
  split at hp'
  · exact hp p hp'
  · exact hp p (List.mem_of_mem_tail hp')
set_option maxRecDepth 100000 in
set_option maxHeartbeats 1000000 in
theorem first_out (w : World) (d : Dg) (A B : Option Addr) (n c m e : Nat) (i : Int) (h : 100 < n ∨ 100 < m ∨ i < 1 ∨ (n : Int) < i) :
    Calls Try.prog 68 #[.slice A n c, .int .i64 i, SumV d, .slice B m e] w fun e w' => e = .returned (.bool true) ∧ Below w.heap.size w w' := by
  have HA := Lib.hid alive10_any
  have HX := one_box w d
  have Hh := Lib.hid h
  clear h
  unfold SumV
  by_cases q1 : 100 < n
  · have d1 : decide ((100 : Int) < (n : Int)) = true := decide_eq_true (by omega)
    go_enter Try.func68, Try.ntmps68
    go_wp2_with (go_at_call 58; refine (HA.out _).mono ?_; rintro e w1 ⟨rfl, hb1⟩)
    go_ret
    exact ⟨rfl, ((HX.out _ rfl _ rfl).stable hb1).below⟩
  · have d1 : decide ((100 : Int) < (n : Int)) = false := decide_eq_false (by omega)
    by_cases q2 : 100 < m
    · have d2 : decide ((100 : Int) < (m : Int)) = true := decide_eq_true (by omega)
      go_enter Try.func68, Try.ntmps68
      go_wp2_with (go_at_call 58; refine (HA.out _).mono ?_; rintro e w1 ⟨rfl, hb1⟩)
      go_ret
      exact ⟨rfl, ((HX.out _ rfl _ rfl).stable hb1).below⟩
    · have d2 : decide ((100 : Int) < (m : Int)) = false := decide_eq_false (by omega)
      by_cases q3 : i < 1
      · have d3 : decide (i < 1) = true := decide_eq_true q3
        go_enter Try.func68, Try.ntmps68
        go_wp2_with (go_at_call 58; refine (HA.out _).mono ?_; rintro e w1 ⟨rfl, hb1⟩)
        go_ret
        exact ⟨rfl, ((HX.out _ rfl _ rfl).stable hb1).below⟩
      · have d3 : decide (i < 1) = false := decide_eq_false q3
        have d4 : decide ((n : Int) < i) = true := decide_eq_true (by have := Hh.out; omega)
        go_enter Try.func68, Try.ntmps68
        go_wp2_with (go_at_call 58; refine (HA.out _).mono ?_; rintro e w1 ⟨rfl, hb1⟩)
        go_ret
        exact ⟨rfl, ((HX.out _ rfl _ rfl).stable hb1).below⟩
set_option maxRecDepth 100000 in
set_option maxHeartbeats 4000000 in
theorem first_in (w : World) (d : Dg) (hd : d.length = 32) (A B : Option Addr) (n c m e : Nat) (k : Nat) (ls ps : List Dg) (hr : RS w A n ls) (hs : RS w B m ps) (hnc : n ≤ c) (hcm : c ≤ maxLen) (hme : m ≤ e) (hem : e ≤ maxLen) (hn : ¬ 100 < n) (hm : ¬ 100 < m) (hk0 : 1 ≤ k) (hk : k ≤ n) :
    Calls Try.prog 68 #[.slice A n c, .int .i64 (k : Int), SumV d, .slice B m e] w fun e w' => e = .returned (.bool true) ∧ Below w.heap.size w w' := by
  have HA := Lib.hid alive10_any
  have HX := one_box w d
  have hRR := refroot_any dig
  have hEx := extends_yes dig
  have hLen := extends_len
  have hRB := refboth_any dig
  have hND := refneeds_any
  have hTX := reftexts_any dig
  have hCL := clash_any dig
  have hOl := @old_law (digest32 K32 H32) dig.len
  have h32 := fun {m n : Nat} {all : Bool} {old : Dg} {ps : List Dg} => @bothF_32 (digest32 K32 H32) dig.len m n all old ps
  have hr32 := rootF_len dig.len
  have h65 := textsF_65 dig.len
  have htl := textsF_len (F := digest32 K32 H32)
  have HFl := dig.len
  generalize digest32 K32 H32 = F at hRR hEx hRB hTX hCL hOl h32 hr32 h65 htl HFl
  have d1 : decide ((100 : Int) < (n : Int)) = false := decide_eq_false (by omega)
  have d2 : decide ((100 : Int) < (m : Int)) = false := decide_eq_false (by omega)
  have d3 : decide ((k : Int) < 1) = false := decide_eq_false (by omega)
  have d4 : decide ((n : Int) < (k : Int)) = false := decide_eq_false (by omega)
  have d4' : decide (n < k) = false := decide_eq_false (by omega)
  have hlen := hr.len
  have hl32 := hr.2.1
  have hp32 := hs.2.1
  have hpl := hs.len
  have hlk : (ls.take k).length = k := by rw [List.length_take, hlen]; omega
  have hl32k : ∀ x ∈ ls.take k, x.length = 32 := fun x hx => hl32 x (List.mem_of_mem_take hx)
  obtain ⟨b, o, hAb, hb0⟩ := hr.2.2 (by omega)
  subst hAb
  obtain ⟨R, hRe⟩ : ∃ R, R = rootF F ls := ⟨_, rfl⟩
  have hR32 : R.length = 32 := by rw [hRe]; exact hr32 n ls hlen hl32
  obtain ⟨R2, hR2e⟩ : ∃ R, R = rootF F (ls.take k) := ⟨_, rfl⟩
  have hR232 : R2.length = 32 := by rw [hR2e]; exact hr32 k _ hlk hl32k
  obtain ⟨N, hN⟩ : ∃ N, N = needsF k n true := ⟨_, rfl⟩
  obtain ⟨x, hx⟩ : ∃ x, x = (bothF F k n true d ps).1 := ⟨_, rfl⟩
  obtain ⟨y, hy⟩ : ∃ y, y = (bothF F k n true d ps).2 := ⟨_, rfl⟩
  obtain ⟨q, hq⟩ : ∃ q, q = (decide (m = N) && (x == d && y == R)) := ⟨_, rfl⟩
  obtain ⟨z, hz⟩ : ∃ z, z = (d == R2) := ⟨_, rfl⟩
  have HRt : Hid (∀ u, OnF w d u → Calls Try.prog 39 #[.slice (some ⟨b, o, none⟩) n c] u fun e w' => e = .returned (.agg (R.map B8).toArray) ∧ OnF w d w' ∧ Below u.heap.size u w') := Lib.hid fun u hu => by
    have h := hRR n n (Nat.le_refl _) u (some ⟨b, o, none⟩) c ls (hr.below hu.below) hnc hcm (by omega)
    rw [← hRe] at h
    exact h.mono fun e w' ⟨h1, h2⟩ => ⟨h1, hu.stable h2, h2⟩
  have HRt2 : Hid (∀ u, OnF w d u → Calls Try.prog 39 #[.slice (some ⟨b, o, none⟩) k c] u fun e w' => e = .returned (.agg (R2.map B8).toArray) ∧ OnF w d w' ∧ Below u.heap.size u w') := Lib.hid fun u hu => by
    have h := hRR k k (Nat.le_refl _) u (some ⟨b, o, none⟩) c (ls.take k) ((hr.below hu.below).take hk) (by omega) hcm (by omega)
    rw [← hR2e] at h
    exact h.mono fun e w' ⟨h1, h2⟩ => ⟨h1, hu.stable h2, h2⟩
  have HHo : Hid (∀ u, OnF w d u → Calls Try.prog 66 #[.int .i64 (k : Int), .int .i64 (n : Int), .agg (d.map B8).toArray, .agg (R.map B8).toArray, .slice B m e] u fun e w' => e = .returned (.bool q) ∧ OnF w d w' ∧ Below u.heap.size u w') := Lib.hid fun u hu => by
    by_cases hmN : m = N
    · have h := hEx u k n hk0 hk (by omega) d R hd hR32 B m e ps (hs.below hu.below) hme (by rw [hmN, hN])
      rw [← hx, ← hy] at h
      have hqe : q = (x == d && y == R) := by rw [hq, decide_eq_true hmN, Bool.true_and]
      rw [← hqe] at h
      exact h.mono fun e w' ⟨h1, h2⟩ => ⟨h1, hu.stable h2, h2⟩
    · have h := hLen u k n hk0 hk (by omega) d R hd B m e ps (hs.below hu.below) hme hem (by rw [← hN]; exact hmN)
      have hqe : q = false := by rw [hq, decide_eq_false hmN, Bool.false_and]
      rw [← hqe] at h
      exact h.mono fun e w' ⟨h1, h2⟩ => ⟨h1, hu.stable h2, h2⟩
  have HS0 : Hid (∀ u, OnF w d u → OnF w d u.drew) := Lib.hid fun u hu => hu.stable (below_drewN (Below.refl _ _) 1)
  have heq := fun w => run_eql_sum w d R2 hd hR232
  rw [← hz] at heq
  have hid := info_of d hd
  have q1 : (0 : Int) ≤ (k : Int) := by omega
  have q2 : (k : Int) ≤ (n : Int) := by omega
  have q3 : (k : Int) ≤ (c : Int) := by omega
  have eg1 := enters_of Try.func39 (by kernel_rfl) rfl
  have eg2 := enters_of Try.func66 (by kernel_rfl) rfl
  unfold SumV
  cases q with
  | false =>
    clear HFl hRR hEx hLen hRB hND hTX hCL hOl h32 hr32 h65 htl hlen hl32 hp32 hpl hRe hR2e hR32 hR232 hN hx hy hq hz hd hr hs hb0 hlk hl32k
    go_enter Try.func68, Try.ntmps68
    go_wp2_with fail
    refine (HA.out _).mono ?_
    rintro e w1 ⟨rfl, hb1⟩
    have h1 := (HX.out _ rfl _ rfl).stable hb1
    have h1d := HS0.out _ h1
    clear hb1
    go_wp2_with fail
    refine wp_region_noPanic ?_
    refine wp_region_moves 16 (fun u => OnF w d u) (fun u u' => Below u.heap.size u u') (fun u => Below.refl _ _) (fun h k => h.trans (k.mono h.size)) (by kernel_rfl) (by kernel_rfl) h1d (fun _ _ _ _ _ h => h) ?_
    simp only [List.take_succ_cons, List.take_zero, List.drop_succ_cons, List.drop_zero]
    refine wpMH_moveW (fun u => Below.refl _ _) (by rfl) _ rfl _ rfl ?_
    simp only [Act.put, List.setIfInBounds_toArray, List.set_cons_zero, List.set_cons_succ]
    refine wpMH_moveW (fun u => Below.refl _ _) (by rfl) _ rfl _ rfl ?_
    simp only [Act.put, List.setIfInBounds_toArray, List.set_cons_zero, List.set_cons_succ]
    refine wpMH_loadW (fun u => Below.refl _ _) (by rfl) _ _ rfl w.heap.size 0 rfl (d.map B8) _ (fun u h => h.r0) Try.underlying26 rfl hid ?_
    simp only [Act.put, List.setIfInBounds_toArray, List.set_cons_zero, List.set_cons_succ]
    refine wpMH_moveW (fun u => Below.refl _ _) (by rfl) _ rfl _ rfl ?_
    simp only [Act.put, List.setIfInBounds_toArray, List.set_cons_zero, List.set_cons_succ]
    refine wpMH_callW (by rfl) 39 _ _ rfl eg1 [.slice (some ⟨b, o, none⟩) n c] rfl (.agg (R.map B8).toArray) (fun u h => HRt.out u h) ?_
    simp only [Act.put, List.setIfInBounds_toArray, List.set_cons_zero, List.set_cons_succ]
    refine wpMH_moveW (fun u => Below.refl _ _) (by rfl) _ rfl _ rfl ?_
    simp only [Act.put, List.setIfInBounds_toArray, List.set_cons_zero, List.set_cons_succ]
    refine wpMH_callW (by rfl) 66 _ _ rfl eg2 [.int .i64 (k : Int), .int .i64 (n : Int), .agg (d.map B8).toArray, .agg (R.map B8).toArray, .slice B m e] rfl (.bool false) (fun u h => HHo.out u h) ?_
    simp only [Act.put, List.setIfInBounds_toArray, List.set_cons_zero, List.set_cons_succ]
    refine wpMH_pureW (fun u => Below.refl _ _) (by rfl) (.bool true) (fun u _ => by rfl) ?_
    simp only [Act.put, List.setIfInBounds_toArray, List.set_cons_zero, List.set_cons_succ]
    refine wpMH_moveW (fun u => Below.refl _ _) (by rfl) _ rfl _ rfl ?_
    simp only [Act.put, List.setIfInBounds_toArray, List.set_cons_zero, List.set_cons_succ]
    refine wpMH_skip (by rfl) ?_
    simp only [Act.put, List.setIfInBounds_toArray, List.set_cons_zero, List.set_cons_succ]
    refine wpMH_skip (by rfl) ?_
    simp only [Act.put, List.setIfInBounds_toArray, List.set_cons_zero, List.set_cons_succ]
    refine wpMH_skip (by rfl) ?_
    simp only [Act.put, List.setIfInBounds_toArray, List.set_cons_zero, List.set_cons_succ]
    refine wpMH_skip (by rfl) ?_
    simp only [Act.put, List.setIfInBounds_toArray, List.set_cons_zero, List.set_cons_succ]
    refine wpMH_skip (by rfl) ?_
    simp only [Act.put, List.setIfInBounds_toArray, List.set_cons_zero, List.set_cons_succ]
    refine wpMH_skip (by rfl) ?_
    simp only [Act.put, List.setIfInBounds_toArray, List.set_cons_zero, List.set_cons_succ]
    refine wpMH_pureW (fun u => Below.refl _ _) (by rfl) (.bool true) (fun u _ => by rfl) ?_
    simp only [Act.put, List.setIfInBounds_toArray, List.set_cons_zero, List.set_cons_succ]
    refine wpMH_nil ?_
    refine wpMT_nil ?_
    intro w6 h6 hM6
    clear hM6 h1 h1d
    refine NoPanic.normal ?_
    go_wp2_with fail
    go_ret
    exact ⟨rfl, h6.below⟩
  | true =>
    have hqq : m = N ∧ x = d ∧ y = R := by
      have := hq
      simp at this
      exact this
    obtain ⟨hmN, hxd, hyR⟩ := hqq
    cases z with
    | true =>
      clear HFl hRR hEx hLen hRB hND hTX hCL hOl h32 hr32 h65 htl hlen hl32 hp32 hpl hRe hR2e hR32 hR232 hN hx hy hq hz hd hr hs hb0 hlk hl32k hmN hxd hyR
      go_enter Try.func68, Try.ntmps68
      go_wp2_with fail
      refine (HA.out _).mono ?_
      rintro e w1 ⟨rfl, hb1⟩
      have h1 := (HX.out _ rfl _ rfl).stable hb1
      have h1d := HS0.out _ h1
      clear hb1
      go_wp2_with fail
      refine wp_region_noPanic ?_
      refine wp_region_moves 16 (fun u => OnF w d u) (fun u u' => Below u.heap.size u u') (fun u => Below.refl _ _) (fun h k => h.trans (k.mono h.size)) (by kernel_rfl) (by kernel_rfl) h1d (fun _ _ _ _ _ h => h) ?_
      simp only [List.take_succ_cons, List.take_zero, List.drop_succ_cons, List.drop_zero]
      refine wpMH_moveW (fun u => Below.refl _ _) (by rfl) _ rfl _ rfl ?_
      simp only [Act.put, List.setIfInBounds_toArray, List.set_cons_zero, List.set_cons_succ]
      refine wpMH_moveW (fun u => Below.refl _ _) (by rfl) _ rfl _ rfl ?_
      simp only [Act.put, List.setIfInBounds_toArray, List.set_cons_zero, List.set_cons_succ]
      refine wpMH_loadW (fun u => Below.refl _ _) (by rfl) _ _ rfl w.heap.size 0 rfl (d.map B8) _ (fun u h => h.r0) Try.underlying26 rfl hid ?_
      simp only [Act.put, List.setIfInBounds_toArray, List.set_cons_zero, List.set_cons_succ]
      refine wpMH_moveW (fun u => Below.refl _ _) (by rfl) _ rfl _ rfl ?_
      simp only [Act.put, List.setIfInBounds_toArray, List.set_cons_zero, List.set_cons_succ]
      refine wpMH_callW (by rfl) 39 _ _ rfl eg1 [.slice (some ⟨b, o, none⟩) n c] rfl (.agg (R.map B8).toArray) (fun u h => HRt.out u h) ?_
      simp only [Act.put, List.setIfInBounds_toArray, List.set_cons_zero, List.set_cons_succ]
      refine wpMH_moveW (fun u => Below.refl _ _) (by rfl) _ rfl _ rfl ?_
      simp only [Act.put, List.setIfInBounds_toArray, List.set_cons_zero, List.set_cons_succ]
      refine wpMH_callW (by rfl) 66 _ _ rfl eg2 [.int .i64 (k : Int), .int .i64 (n : Int), .agg (d.map B8).toArray, .agg (R.map B8).toArray, .slice B m e] rfl (.bool true) (fun u h => HHo.out u h) ?_
      simp only [Act.put, List.setIfInBounds_toArray, List.set_cons_zero, List.set_cons_succ]
      refine wpMH_pureW (fun u => Below.refl _ _) (by rfl) (.bool false) (fun u _ => by rfl) ?_
      simp only [Act.put, List.setIfInBounds_toArray, List.set_cons_zero, List.set_cons_succ]
      refine wpMH_moveW (fun u => Below.refl _ _) (by rfl) _ rfl _ rfl ?_
      simp only [Act.put, List.setIfInBounds_toArray, List.set_cons_zero, List.set_cons_succ]
      refine wpMH_loadW (fun u => Below.refl _ _) (by rfl) _ _ rfl w.heap.size 0 rfl (d.map B8) _ (fun u h => h.r0) Try.underlying26 rfl hid ?_
      simp only [Act.put, List.setIfInBounds_toArray, List.set_cons_zero, List.set_cons_succ]
      refine wpMH_moveW (fun u => Below.refl _ _) (by rfl) _ rfl _ rfl ?_
      simp only [Act.put, List.setIfInBounds_toArray, List.set_cons_zero, List.set_cons_succ]
      refine wpMH_moveW (fun u => Below.refl _ _) (by rfl) _ rfl _ rfl ?_
      simp only [Act.put, List.setIfInBounds_toArray, List.set_cons_zero, List.set_cons_succ]
      refine wpMH_pureW (fun u => Below.refl _ _) (by rfl) (.slice (some ⟨b, o, none⟩) k c) (fun u _ => by go_simp) ?_
      simp only [Act.put, List.setIfInBounds_toArray, List.set_cons_zero, List.set_cons_succ]
      refine wpMH_callW (by rfl) 39 _ _ rfl eg1 [.slice (some ⟨b, o, none⟩) k c] rfl (.agg (R2.map B8).toArray) (fun u h => HRt2.out u h) ?_
      simp only [Act.put, List.setIfInBounds_toArray, List.set_cons_zero, List.set_cons_succ]
      refine wpMH_pureW (fun u => Below.refl _ _) (by rfl) (.bool true) (fun u _ => by go_simp) ?_
      simp only [Act.put, List.setIfInBounds_toArray, List.set_cons_zero, List.set_cons_succ]
      refine wpMH_pureW (fun u => Below.refl _ _) (by rfl) (.bool true) (fun u _ => by rfl) ?_
      simp only [Act.put, List.setIfInBounds_toArray, List.set_cons_zero, List.set_cons_succ]
      refine wpMH_nil ?_
      refine wpMT_nil ?_
      intro w6 h6 hM6
      clear hM6 h1 h1d
      refine NoPanic.normal ?_
      go_wp2_with fail
      go_ret
      exact ⟨rfl, h6.below⟩
    | false =>
      have hdR : d ≠ R2 := by
        have := hz
        simpa using this
      have hpN : ps.length = needsF k n true := by rw [hpl, hmN, hN]
      have hRf : Hid (∀ u, Calls Try.prog 95 #[.int .i64 (k : Int), .int .i64 (n : Int), .bool true] u fun e w' => e = .returned (.int .i64 (m : Int)) ∧ u = w') := Lib.hid fun u => by rw [hmN, hN]; exact hND n n (Nat.le_refl _) u k true hk0 hk (by omega)
      have hmm : ((m : Int) != (m : Int)) = false := by simp
      obtain ⟨T1, hT1⟩ : ∃ T, T = bothT F k n true d ps := ⟨_, rfl⟩
      obtain ⟨T2, hT2⟩ : ∃ T, T = textsF F ls := ⟨_, rfl⟩
      obtain ⟨T3, hT3⟩ : ∃ T, T = textsF F (ls.take k) := ⟨_, rfl⟩
      have hT165 : ∀ t ∈ T1, t.length = 65 := by rw [hT1]; exact bothT_65 HFl hd hp32 hpN
      have hT265 : ∀ t ∈ T2, t.length = 65 := by rw [hT2]; exact h65 n ls hlen hl32
      have hT365 : ∀ t ∈ T3, t.length = 65 := by rw [hT3]; exact h65 k _ hlk hl32k
      have H65 : Hid (∀ t ∈ (T1 ++ T2) ++ T3, t.length ≤ 1000000) := Lib.hid fun t ht => by
        rcases List.mem_append.1 ht with h | h
        · rcases List.mem_append.1 h with h | h
          · rw [hT165 t h]; decide
          · rw [hT265 t h]; decide
        · rw [hT365 t h]; decide
      have hT1l : T1.length ≤ 2 * n := by rw [hT1]; exact bothT_len hk0
      have hT2l : T2.length ≤ n := by rw [hT2]; exact htl n ls hlen
      have hT3l : T3.length ≤ k := by rw [hT3]; exact htl k _ hlk
      obtain ⟨m1, hm1⟩ : ∃ m, m = T1.length := ⟨_, rfl⟩
      obtain ⟨m2, hm2⟩ : ∃ m, m = T2.length := ⟨_, rfl⟩
      obtain ⟨m3, hm3⟩ : ∃ m, m = T3.length := ⟨_, rfl⟩
      rw [← hm1] at hT1l
      rw [← hm2] at hT2l
      rw [← hm3] at hT3l
      have Hno : Hid (¬ Clear F ((T1 ++ T2) ++ T3)) := Lib.hid fun hcl => hdR (by
        have h := hOl hcl n ls k true d ps hlen hl32 hd hp32 hk0 hk hpN (fun t h => List.mem_append_left _ (List.mem_append_right _ (by rw [hT2]; exact h))) (fun t h => List.mem_append_left _ (List.mem_append_left _ (by rw [hT1]; exact h))) (by rw [← hy, hyR, hRe])
        rw [← hx, ← hR2e] at h
        rw [← h, hxd])
      have HRC : Hid (∀ u, OnF w d u → Calls Try.prog 96 #[.int .i64 (k : Int), .int .i64 (n : Int), .bool true, .agg (d.map B8).toArray, .slice B m e] u fun e w' => ∃ A1 c1 us1, e = .returned (.tuple #[.agg (d.map B8).toArray, .agg (R.map B8).toArray, .slice A1 m1 c1]) ∧ OnF w d w' ∧ RowT w (.slice A1 m1 c1) m1 us1 T1 w') := Lib.hid fun u hu => by
        refine (hRB n n (Nat.le_refl _) u k true d B m e ps hd hk0 hk (by omega) (hs.below hu.below) hme hem (by rw [hmN, hN])).mono ?_
        rintro e w' ⟨A', c', us, he, h1, h2, hb⟩
        rw [← hx, ← hy, hxd, hyR, ← hT1, ← hm1] at he
        rw [← hT1, ← hm1] at h1
        rw [← hT1] at h2
        exact ⟨A', c', us, he, hu.stable hb, ownsRow_base h1 hu.below.size, h2.base hu.below.size⟩
      have HTX : Hid (∀ u, OnF w d u → Calls Try.prog 41 #[.slice (some ⟨b, o, none⟩) n c] u fun e w' => ∃ A1 c1 us1, e = .returned (.slice A1 m2 c1) ∧ Below u.heap.size u w' ∧ RowT w (.slice A1 m2 c1) m2 us1 T2 w') := Lib.hid fun u hu => by
        refine (hTX n n (Nat.le_refl _) u (some ⟨b, o, none⟩) c ls (hr.below hu.below) hnc hcm (by omega)).mono ?_
        rintro e w' ⟨A', c', us, he, h1, h2, hb⟩
        rw [← hT2, ← hm2] at he h1
        rw [← hT2] at h2
        exact ⟨A', c', us, he, hb, ownsRow_base h1 hu.below.size, h2.base hu.below.size⟩
      have HTY : Hid (∀ u, Below w.heap.size w u → Calls Try.prog 41 #[.slice (some ⟨b, o, none⟩) k c] u fun e w' => ∃ A1 c1 us1, e = .returned (.slice A1 m3 c1) ∧ Below u.heap.size u w' ∧ RowT w (.slice A1 m3 c1) m3 us1 T3 w') := Lib.hid fun u hu => by
        refine (hTX k k (Nat.le_refl _) u (some ⟨b, o, none⟩) c (ls.take k) ((hr.below hu).take hk) (by omega) hcm (by omega)).mono ?_
        rintro e w' ⟨A', c', us, he, h1, h2, hb⟩
        rw [← hT3, ← hm3] at he h1
        rw [← hT3] at h2
        exact ⟨A', c', us, he, hb, ownsRow_base h1 hu.size, h2.base hu.size⟩
      have HCL : Hid (∀ (u : World) A1 c1 us1, RowT w (.slice A1 (m1 + m2 + m3) c1) (m1 + m2 + m3) us1 ((T1 ++ T2) ++ T3) u → Calls Try.prog 93 #[.slice A1 (m1 + m2 + m3) c1] u fun e w' => e = .returned (.bool true) ∧ Below u.heap.size u w') := Lib.hid fun u A1 c1 us1 hu => by
        obtain ⟨A', c', e', h1, h2, h3, -⟩ := own_form hu.own
        cases e'
        refine (hCL u A1 (m1 + m2 + m3) c1 us1 ((T1 ++ T2) ++ T3) h3 h1 h2 hu.elts.1 (fun k u x hu' hx => hu.elts.sb k u x hu' hx) H65.out (by omega)).mono ?_
        rintro e w' ⟨bb, he, hcl, hb⟩
        cases bb with
        | true => exact ⟨he, hb⟩
        | false => exact absurd (hcl rfl) Hno.out
      have hid' := info_of' d hd
      have hiR := info_of' R hR32
      have HD32 := Lib.hid (And.intro hd hR32)
      clear HFl hRR hEx hLen hRB hND hTX hCL hOl h32 hr32 h65 htl hlen hl32 hp32 hpl hRe hR2e hR32 hR232 hN hx hy hq hz hd hr hs hb0 hlk hl32k hmN hxd hyR hdR hpN hT1 hT2 hT3 hT165 hT265 hT365 hm1 hm2 hm3
      go_enter Try.func68, Try.ntmps68
      go_wp2_with fail
      refine (HA.out _).mono ?_
      rintro e w1 ⟨rfl, hb1⟩
      have h1 := (HX.out _ rfl _ rfl).stable hb1
      have h1d := HS0.out _ h1
      clear hb1
      go_wp2_with fail
      refine wp_region_noPanic ?_
      refine wp_region_moves 16 (fun u => OnF w d u) (fun u u' => Below u.heap.size u u') (fun u => Below.refl _ _) (fun h k => h.trans (k.mono h.size)) (by kernel_rfl) (by kernel_rfl) h1d (fun _ _ _ _ _ h => h) ?_
      simp only [List.take_succ_cons, List.take_zero, List.drop_succ_cons, List.drop_zero]
      refine wpMH_moveW (fun u => Below.refl _ _) (by rfl) _ rfl _ rfl ?_
      simp only [Act.put, List.setIfInBounds_toArray, List.set_cons_zero, List.set_cons_succ]
      refine wpMH_moveW (fun u => Below.refl _ _) (by rfl) _ rfl _ rfl ?_
      simp only [Act.put, List.setIfInBounds_toArray, List.set_cons_zero, List.set_cons_succ]
      refine wpMH_loadW (fun u => Below.refl _ _) (by rfl) _ _ rfl w.heap.size 0 rfl (d.map B8) _ (fun u h => h.r0) Try.underlying26 rfl hid ?_
      simp only [Act.put, List.setIfInBounds_toArray, List.set_cons_zero, List.set_cons_succ]
      refine wpMH_moveW (fun u => Below.refl _ _) (by rfl) _ rfl _ rfl ?_
      simp only [Act.put, List.setIfInBounds_toArray, List.set_cons_zero, List.set_cons_succ]
      refine wpMH_callW (by rfl) 39 _ _ rfl eg1 [.slice (some ⟨b, o, none⟩) n c] rfl (.agg (R.map B8).toArray) (fun u h => HRt.out u h) ?_
      simp only [Act.put, List.setIfInBounds_toArray, List.set_cons_zero, List.set_cons_succ]
      refine wpMH_moveW (fun u => Below.refl _ _) (by rfl) _ rfl _ rfl ?_
      simp only [Act.put, List.setIfInBounds_toArray, List.set_cons_zero, List.set_cons_succ]
      refine wpMH_callW (by rfl) 66 _ _ rfl eg2 [.int .i64 (k : Int), .int .i64 (n : Int), .agg (d.map B8).toArray, .agg (R.map B8).toArray, .slice B m e] rfl (.bool true) (fun u h => HHo.out u h) ?_
      simp only [Act.put, List.setIfInBounds_toArray, List.set_cons_zero, List.set_cons_succ]
      refine wpMH_pureW (fun u => Below.refl _ _) (by rfl) (.bool false) (fun u _ => by rfl) ?_
      simp only [Act.put, List.setIfInBounds_toArray, List.set_cons_zero, List.set_cons_succ]
      refine wpMH_moveW (fun u => Below.refl _ _) (by rfl) _ rfl _ rfl ?_
      simp only [Act.put, List.setIfInBounds_toArray, List.set_cons_zero, List.set_cons_succ]
      refine wpMH_loadW (fun u => Below.refl _ _) (by rfl) _ _ rfl w.heap.size 0 rfl (d.map B8) _ (fun u h => h.r0) Try.underlying26 rfl hid ?_
      simp only [Act.put, List.setIfInBounds_toArray, List.set_cons_zero, List.set_cons_succ]
      refine wpMH_moveW (fun u => Below.refl _ _) (by rfl) _ rfl _ rfl ?_
      simp only [Act.put, List.setIfInBounds_toArray, List.set_cons_zero, List.set_cons_succ]
      refine wpMH_moveW (fun u => Below.refl _ _) (by rfl) _ rfl _ rfl ?_
      simp only [Act.put, List.setIfInBounds_toArray, List.set_cons_zero, List.set_cons_succ]
      refine wpMH_pureW (fun u => Below.refl _ _) (by rfl) (.slice (some ⟨b, o, none⟩) k c) (fun u _ => by go_simp) ?_
      simp only [Act.put, List.setIfInBounds_toArray, List.set_cons_zero, List.set_cons_succ]
      refine wpMH_callW (by rfl) 39 _ _ rfl eg1 [.slice (some ⟨b, o, none⟩) k c] rfl (.agg (R2.map B8).toArray) (fun u h => HRt2.out u h) ?_
      simp only [Act.put, List.setIfInBounds_toArray, List.set_cons_zero, List.set_cons_succ]
      refine wpMH_pureW (fun u => Below.refl _ _) (by rfl) (.bool false) (fun u _ => by go_simp) ?_
      simp only [Act.put, List.setIfInBounds_toArray, List.set_cons_zero, List.set_cons_succ]
      refine wpMH_pureW (fun u => Below.refl _ _) (by rfl) (.bool false) (fun u _ => by rfl) ?_
      simp only [Act.put, List.setIfInBounds_toArray, List.set_cons_zero, List.set_cons_succ]
      refine wpMH_nil ?_
      refine wpMT_nil ?_
      intro w6 h6 hM6
      clear hM6 h1 h1d
      refine NoPanic.normal ?_
      go_wp2_with (first
        | (go_at_call 95; refine (hRf.out _).mono ?_; rintro e w7 ⟨rfl, rfl⟩)
        | ((with_reducible show wpList _ _ _ (⟨_, Op.load 26 (.tmp 6), _, _, _, _⟩ :: _) _ _); refine wpList_load_mid rfl _ _ rfl w.heap.size 0 rfl (d.map B8) _ h6.r0 Try.underlying26 rfl hid ?_; simp only [Act.put, List.setIfInBounds_toArray, List.set_cons_zero, List.set_cons_succ]))
      refine (HRC.out _ h6).mono ?_
      rintro e w8 ⟨A1, c1, us1, rfl, h8, hr8⟩
      have H8 := Lib.hid (And.intro h8 hr8)
      clear h6 h8 hr8
      go_wp2_with (first
        | ((with_reducible show wpList _ _ _ (⟨_, Op.store 26 (.tmp 10) _, _, _, _, _⟩ :: _) _ _); obtain ⟨W2, hW2⟩ : ∃ W2, W2 = (w8.alloc (.cells #[.int .u8 0, .int .u8 0, .int .u8 0, .int .u8 0, .int .u8 0, .int .u8 0, .int .u8 0, .int .u8 0, .int .u8 0, .int .u8 0, .int .u8 0, .int .u8 0, .int .u8 0, .int .u8 0, .int .u8 0, .int .u8 0, .int .u8 0, .int .u8 0, .int .u8 0, .int .u8 0, .int .u8 0, .int .u8 0, .int .u8 0, .int .u8 0, .int .u8 0, .int .u8 0, .int .u8 0, .int .u8 0, .int .u8 0, .int .u8 0, .int .u8 0, .int .u8 0] 26)).alloc (.cells #[.int .u8 0, .int .u8 0, .int .u8 0, .int .u8 0, .int .u8 0, .int .u8 0, .int .u8 0, .int .u8 0, .int .u8 0, .int .u8 0, .int .u8 0, .int .u8 0, .int .u8 0, .int .u8 0, .int .u8 0, .int .u8 0, .int .u8 0, .int .u8 0, .int .u8 0, .int .u8 0, .int .u8 0, .int .u8 0, .int .u8 0, .int .u8 0, .int .u8 0, .int .u8 0, .int .u8 0, .int .u8 0, .int .u8 0, .int .u8 0, .int .u8 0, .int .u8 0] 26) := ⟨_, rfl⟩; have HM := Lib.hid ((two_made w8).out _ rfl W2 hW2); rw [← hW2]; clear hW2; have hth8 : W2.there w8.heap.size 0 (d.map B8).toArray.size := sz_there HD32.out.1 HM.out.2.1; refine wpList_store_row rfl _ _ _ rfl w8.heap.size 0 (d.map B8).toArray rfl rfl (hth8) hid' (b8_all d) ?_; intro w4 hg4 hs4 ht4 hth4; rw [List.toList_toArray] at ht4; have hth5 : w4.there (w8.heap.size + 1) 0 (R.map B8).toArray.size := sz_there HD32.out.2 (there_grown HM.out.2.2 (by decide) hg4 (by simp)); have H4 := Lib.hid (HM.out.1.grown hg4 HM.out.1.size (by intro k hk; cases hk; exact Nat.le_refl _)); clear hg4 hs4 ht4 hth4 hth8)
        | ((with_reducible show wpList _ _ _ (⟨_, Op.store 26 (.tmp 11) _, _, _, _, _⟩ :: _) _ _); refine wpList_store_row rfl _ _ _ rfl (w8.heap.size + 1) 0 (R.map B8).toArray rfl rfl (hth5) hiR (b8_all R) ?_; intro w5 hg5 hs5 ht5 hth5; rw [List.toList_toArray] at ht5; have hb5 := H4.out.grown hg5 H4.out.size (by intro k hk; cases hk; omega); have H9 := Lib.hid (And.intro (H8.out.1.stable hb5) (H8.out.2.stable hb5)); clear hg5 hs5 ht5 hth5 hb5))
      have H9d := Lib.hid (And.intro (H9.out.1.stable (below_drewN (Below.refl _ _) 1)) (H9.out.2.stable (below_drewN (Below.refl _ _) 1)))
      clear H9 H8
      refine wp_region_noPanic ?_
      refine wp_region_movesJ [0, 1, 4, 5, 6] (fun u => Below w.heap.size w u) (fun u u' => u = u') (fun u => rfl) (fun h k => h.trans k) (by kernel_rfl) (by kernel_rfl) (by kernel_rfl) H9d.out.1.below (fun _ _ _ _ _ h => h) ?_
      simp only [List.filterMap, List.getElem?_cons_zero, List.getElem?_cons_succ]
      refine wpMH_moveW (fun u => rfl) (by rfl) _ rfl _ rfl ?_
      simp only [Act.put, List.setIfInBounds_toArray, List.set_cons_zero, List.set_cons_succ]
      refine wpMH_moveW (fun u => rfl) (by rfl) _ rfl _ rfl ?_
      simp only [Act.put, List.setIfInBounds_toArray, List.set_cons_zero, List.set_cons_succ]
      refine wpMH_moveW (fun u => rfl) (by rfl) _ rfl _ rfl ?_
      simp only [Act.put, List.setIfInBounds_toArray, List.set_cons_zero, List.set_cons_succ]
      refine wpMH_moveW (fun u => rfl) (by rfl) _ rfl _ rfl ?_
      simp only [Act.put, List.setIfInBounds_toArray, List.set_cons_zero, List.set_cons_succ]
      refine wpMH_pureW (fun u => rfl) (by rfl) (.slice (some ⟨b, o, none⟩) k c) (fun u hu => by go_simp) ?_
      simp only [Act.put, List.setIfInBounds_toArray, List.set_cons_zero, List.set_cons_succ]
      refine wpMH_nil ?_
      refine wpAnyM_one 2 (by kernel_rfl) rfl ?_
      simp only [List.getElem_toArray, List.getElem_cons_succ, List.getElem_cons_zero]
      rintro u1 - rfl
      go_wp2_with fail
      refine (HTX.out _ H9d.out.1).mono ?_
      rintro e w10 ⟨A2, c2, us2, rfl, hb10, hr10⟩
      have H10 := Lib.hid (And.intro (H9d.out.1.stable hb10) (And.intro (H9d.out.2.stable hb10) hr10))
      clear hb10 hr10
      go_wp2_with fail
      refine ⟨H10.out.1.below, ?_⟩
      refine wpAnyM_one 3 (by kernel_rfl) rfl ?_
      simp only [List.getElem_toArray, List.getElem_cons_succ, List.getElem_cons_zero]
      rintro u2 - rfl
      go_wp2_with (at_builtin; refine wpList_append_keep rfl (.tmp 64) (.tmp 66) 35 rfl w H10.out.1.below Try.underlying35 info_row3 rfl (by decide) (.slice A1 m1 c1) m1 us1 rfl H10.out.2.1.own A2 m2 c2 us2 rfl (own_rc H10.out.2.2.own) (by have := H10.out.2.2.own.1; omega) (elts_one H10.out.2.2.elts) (by unfold maxLen; omega) (by omega) ?_; intro v7 w7 hown7 hb7 _ hg7 _; obtain ⟨AT, cT, rfl, -, -, -, -⟩ := own_form hown7; have H7 : Hid (RowT w (.slice AT (m1 + m2) cT) (m1 + m2) (us1 ++ us2) (T1 ++ T2) w7 ∧ Below w.heap.size w w7) := Lib.hid ⟨⟨hown7, (H10.out.2.1.elts.kept H10.out.2.1.own (by decide) hg7).app (H10.out.2.2.elts.kept H10.out.2.1.own (by decide) hg7)⟩, hb7⟩; clear hown7 hb7 hg7)
      refine ⟨H7.out.2, ?_⟩
      refine wpAnyM_one 7 (by kernel_rfl) rfl ?_
      simp only [List.getElem_toArray, List.getElem_cons_succ, List.getElem_cons_zero]
      rintro u3 - rfl
      go_wp2_with fail
      refine (HTY.out _ H7.out.2).mono ?_
      rintro e w11 ⟨A3, c3, us3, rfl, hb11, hr11⟩
      have H11 := Lib.hid (And.intro (H7.out.2.trans (hb11.mono H7.out.2.size)) (And.intro (H7.out.1.stable hb11) hr11))
      clear hb11 hr11
      go_wp2_with fail
      refine ⟨H11.out.1, ?_⟩
      refine wpAnyM_one 8 (by kernel_rfl) rfl ?_
      simp only [List.getElem_toArray, List.getElem_cons_succ, List.getElem_cons_zero]
      rintro u4 - rfl
      obtain ⟨us12, hus12⟩ : ∃ us, us = us1 ++ us2 := ⟨_, rfl⟩
      rw [← hus12] at H11
      clear hus12 H10 H9d
      go_wp2_with (at_builtin; refine wpList_append_keep rfl (.tmp 67) (.tmp 71) 35 rfl w H11.out.1 Try.underlying35 info_row3 rfl (by decide) (.slice AT (m1 + m2) cT) (m1 + m2) us12 rfl H11.out.2.1.own A3 m3 c3 us3 rfl (own_rc H11.out.2.2.own) (by have := H11.out.2.2.own.1; omega) (elts_one H11.out.2.2.elts) (by unfold maxLen; omega) (by omega) ?_; intro v13 w13 hown13 hb13 _ hg13 _; obtain ⟨AU, cU, rfl, -, -, -, -⟩ := own_form hown13; have H13 : Hid (RowT w (.slice AU (m1 + m2 + m3) cU) (m1 + m2 + m3) (us12 ++ us3) ((T1 ++ T2) ++ T3) w13 ∧ Below w.heap.size w w13) := Lib.hid ⟨⟨hown13, (H11.out.2.1.elts.kept H11.out.2.1.own (by decide) hg13).app (H11.out.2.2.elts.kept H11.out.2.1.own (by decide) hg13)⟩, hb13⟩; clear hown13 hb13 hg13)
      refine ⟨H13.out.2, ?_⟩
      refine wpAnyM_one 9 (by kernel_rfl) rfl ?_
      simp only [List.getElem_toArray, List.getElem_cons_succ, List.getElem_cons_zero]
      rintro u5 - rfl
      go_wp2_with fail
      refine (HCL.out _ _ _ _ H13.out.1).mono ?_
      rintro e w14 ⟨rfl, hb14⟩
      have h14 := Lib.hid (H13.out.2.trans (hb14.mono H13.out.2.size))
      clear hb14
      go_wp2_with fail
      refine ⟨h14.out, ?_⟩
      refine wpAnyM_one 10 (by kernel_rfl) rfl ?_
      simp only [List.getElem_toArray, List.getElem_cons_succ, List.getElem_cons_zero]
      rintro u6 - rfl
      go_wp2_with fail
      refine ⟨h14.out, ?_⟩
      refine wpAnyM_nil (by kernel_rfl) ?_
      rintro u7 - rfl
      refine NoPanic.normal ?_
      go_wp2_with fail
      go_ret
      exact ⟨rfl, h14.out⟩
theorem first_any (w : World) (L V : Value) (d : Dg) (hd : d.length = 32) (i : Int) (ls ps : List Dg) (hL : SS w L ls) (hV : SS w V ps) :
    Calls Try.prog 68 #[L, .int .i64 i, SumV d, V] w fun e w' => e = .returned (.bool true) ∧ Below w.heap.size w w' := by
  obtain ⟨A, n, c, rfl, hnc, hcm, hr⟩ := hL
  obtain ⟨B, m, e, rfl, hme, hem, hs⟩ := hV
  by_cases h : 100 < n ∨ 100 < m ∨ i < 1 ∨ (n : Int) < i
  · exact first_out w d A B n c m e i h
  · obtain ⟨k, rfl⟩ : ∃ k : Nat, i = (k : Int) := ⟨i.toNat, by omega⟩
    exact first_in w d hd A B n c m e k ls ps hr hs hnc hcm hme hem (by omega) (by omega) (by omega) (by omega)
set_option maxRecDepth 100000 in
set_option maxHeartbeats 2000000 in
theorem proofOld_law (w : World) (L V : Value) (ls ps : List Dg) (i : Int) (l : Dg) (hL : SS w L ls) (hl : l.length = 32) (hV : SS w V ps) :
    Calls Try.prog 18 #[.agg ([L, .int .i64 i] ++ (l.map B8 ++ [V])).toArray] w fun e w' => e = .returned (.bool true) ∧ Below w.heap.size w w' := by
  obtain ⟨cs, hcs⟩ : ∃ cs, cs = [L, .int .i64 i] ++ (l.map B8 ++ [V]) := ⟨_, rfl⟩
  rw [← hcs]
  have hX : Hid (∀ W, W = w.alloc (.cells cs.toArray 89) → Below w.heap.size w W ∧ W.cell? ⟨w.heap.size, 0, none⟩ = some L ∧ W.cell? ⟨w.heap.size, 1, none⟩ = some (.int .i64 i) ∧ W.rangeAt w.heap.size 2 (l.map B8) ∧ W.cell? ⟨w.heap.size, 34, none⟩ = some V) := Lib.hid (by
    rintro W rfl
    have h0 : (w.alloc (.cells cs.toArray 89)).rangeAt w.heap.size 0 cs := rangeAt_at _ _ _ _ _ rfl
    have hb : Below w.heap.size w (w.alloc (.cells cs.toArray 89)) := (Below.refl _ _).alloc (Nat.le_refl _) _
    generalize w.alloc (.cells cs.toArray 89) = W at *
    rw [hcs] at h0
    obtain ⟨h1, h2⟩ := range_app h0
    obtain ⟨h2, h3⟩ := range_app h2
    rw [List.length_map, hl] at h3
    have c1 := range_app (a := [L]) (b := [.int .i64 i]) h1
    exact ⟨hb, range_cell c1.1, range_cell c1.2, h2, range_cell h3⟩)
  have hC := fun u (h1 : SS u L ls) (h2 : SS u V ps) => first_any u L V l hl i ls ps h1 h2
  have HC := Lib.hid hC
  have HV := Lib.hid (And.intro hL hV)
  have hi1 := info_of l hl
  clear hcs hC hV hL hl
  unfold SumV at HC
  go_enter Try.func18, Try.ntmps18
  go_wp2_with (first
    | ((with_reducible show wpList _ _ _ (⟨_, Op.load 42 (.tmp 3), _, _, _, _⟩ :: _) _ _); obtain ⟨W, hW⟩ : ∃ W, W = w.alloc (.cells cs.toArray 89) := ⟨_, rfl⟩; obtain ⟨hb, c0, c1, h1, c2⟩ := hX.out W hW; rw [← hW]; clear hW)
    | ((with_reducible show wpList _ _ _ (⟨_, Op.load 26 (.tmp 7), _, _, _, _⟩ :: _) _ _); refine wpList_load_mid rfl _ _ rfl w.heap.size 2 rfl (l.map B8) _ h1 Try.underlying26 rfl hi1 ?_; simp only [Act.put, List.setIfInBounds_toArray, List.set_cons_zero, List.set_cons_succ]))
  refine (HC.out W (HV.out.1.below hb) (HV.out.2.below hb)).mono ?_
  rintro e w9 ⟨rfl, hb9⟩
  go_wp2_with fail
  go_ret
  exact ⟨rfl, hb.trans (hb9.mono hb.size)⟩
end Go.Proofs.Ytkcmacglomdfcaa
