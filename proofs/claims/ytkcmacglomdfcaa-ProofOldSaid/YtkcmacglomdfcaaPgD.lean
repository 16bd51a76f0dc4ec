/-
  THE WALK of the law ProofAlone.
-/
import Derived.Test.YtkcmacglomdfcaaPgBC
import Derived.Test.YtkcmacglomdfcaaTxC
import Derived.Test.YtkcmacglomdfcaaMoves
namespace Go.Proofs.Ytkcmacglomdfcaa
open Go.RowKit

/-- In only, first: the digest in its variable. -/
structure OnF (w : World) (d : Dg) (u : World) : Prop where
  below : Below w.heap.size w u
  r0 : u.rangeAt w.heap.size 0 (d.map B8)
  sz : w.heap.size < u.heap.size
theorem OnF.stable {w u u' : World} {d : Dg} (h : OnF w d u) (hb : Below u.heap.size u u') : OnF w d u' := ⟨h.below.trans (hb.mono h.below.size), rangeAt_below' h.r0 hb, Nat.lt_of_lt_of_le h.sz hb.size⟩
theorem one_box (w : World) (d : Dg) : Hid (∀ (cl : List Value), cl = d.map B8 → ∀ W, W = w.alloc (.cells cl.toArray 26) → OnF w d W) := Lib.hid (by
  rintro cl rfl W rfl
  exact ⟨(Below.refl _ _).alloc (Nat.le_refl _) _, rangeAt_at _ _ _ _ _ rfl, by simp⟩)
theorem comeT_65 {F : Dg → Dg} (hF : ∀ t, (F t).length = 32) : ∀ (ts : List Bool) (ps : List Dg) (d : Dg), d.length = 32 → (∀ p ∈ ps, p.length = 32) → ∀ t ∈ comeT F d ts ps, t.length = 65
  | [], ps, d, _, _ => by cases ps <;> (intro t ht; cases ht)
  | _ :: _, [], d, _, _ => by intro t ht; cases ht
  | b :: ts, p :: ps, d, hd, hp => by
    intro t ht
    rw [comeT] at ht
    have hp1 := hp p (by simp)
    rcases List.mem_cons.1 ht with h | h
    · subst h
      cases b <;> simp [hd, hp1]
    · refine comeT_65 hF ts ps _ ?_ (fun p h => hp p (by simp [h])) t h
      cases b <;> exact hF _
set_option maxRecDepth 100000 in
set_option maxHeartbeats 1000000 in
theorem only_out (w : World) (d : Dg) (A B : Option Addr) (n c m e : Nat) (i : Int) (h : 100 < n ∨ 100 < m ∨ i < 0 ∨ (n : Int) ≤ i) :
    Calls Try.prog 65 #[.slice A n c, .int .i64 i, SumV d, .slice B m e] w fun e w' => e = .returned (.bool true) ∧ Below w.heap.size w w' := by
  have HA := Lib.hid alive10_any
  have HX := one_box w d
  have Hh := Lib.hid h
  clear h
  unfold SumV
  by_cases q1 : 100 < n
  · have d1 : decide ((100 : Int) < (n : Int)) = true := decide_eq_true (by omega)
    go_enter Try.func65, Try.ntmps65
    go_wp2_with (go_at_call 58; refine (HA.out _).mono ?_; rintro e w1 ⟨rfl, hb1⟩)
    go_ret
    exact ⟨rfl, ((HX.out _ rfl _ rfl).stable hb1).below⟩
  · have d1 : decide ((100 : Int) < (n : Int)) = false := decide_eq_false (by omega)
    by_cases q2 : 100 < m
    · have d2 : decide ((100 : Int) < (m : Int)) = true := decide_eq_true (by omega)
      go_enter Try.func65, Try.ntmps65
      go_wp2_with (go_at_call 58; refine (HA.out _).mono ?_; rintro e w1 ⟨rfl, hb1⟩)
      go_ret
      exact ⟨rfl, ((HX.out _ rfl _ rfl).stable hb1).below⟩
    · have d2 : decide ((100 : Int) < (m : Int)) = false := decide_eq_false (by omega)
      by_cases q3 : i < 0
      · have d3 : decide (i < 0) = true := decide_eq_true q3
        go_enter Try.func65, Try.ntmps65
        go_wp2_with (go_at_call 58; refine (HA.out _).mono ?_; rintro e w1 ⟨rfl, hb1⟩)
        go_ret
        exact ⟨rfl, ((HX.out _ rfl _ rfl).stable hb1).below⟩
      · have d3 : decide (i < 0) = false := decide_eq_false q3
        have d4 : decide ((n : Int) ≤ i) = true := decide_eq_true (by have := Hh.out; omega)
        go_enter Try.func65, Try.ntmps65
        go_wp2_with (go_at_call 58; refine (HA.out _).mono ?_; rintro e w1 ⟨rfl, hb1⟩)
        go_ret
        exact ⟨rfl, ((HX.out _ rfl _ rfl).stable hb1).below⟩
set_option maxRecDepth 100000 in
set_option maxHeartbeats 4000000 in
theorem only_in (w : World) (d : Dg) (hd : d.length = 32) (A B : Option Addr) (n c m e : Nat) (k : Nat) (ls ps : List Dg) (hr : RS w A n ls) (hs : RS w B m ps) (hnc : n ≤ c) (hcm : c ≤ maxLen) (hme : m ≤ e) (hem : e ≤ maxLen) (hn : ¬ 100 < n) (hm : ¬ 100 < m) (hk : k < n) :
    Calls Try.prog 65 #[.slice A n c, .int .i64 (k : Int), SumV d, .slice B m e] w fun e w' => e = .returned (.bool true) ∧ Below w.heap.size w w' := by
  have HA := Lib.hid alive10_any
  have HX := one_box w d
  have hRR := refroot_any dig
  have hCY := come_yes dig
  have hRC := refcome_any dig
  have hTX := reftexts_any dig
  have hCL := clash_any dig
  have hAl := @alone_law (digest32 K32 H32) dig.len
  have hg32 := comeF_32 (F := digest32 K32 H32) dig.len
  have hr32 := rootF_len dig.len
  have h65 := textsF_65 dig.len
  have htl := textsF_len (F := digest32 K32 H32)
  have HFl := dig.len
  generalize digest32 K32 H32 = F at hRR hCY hRC hTX hCL hAl hg32 hr32 h65 htl HFl
  have d1 : decide ((100 : Int) < (n : Int)) = false := decide_eq_false (by omega)
  have d2 : decide ((100 : Int) < (m : Int)) = false := decide_eq_false (by omega)
  have d3 : decide ((k : Int) < 0) = false := decide_eq_false (by omega)
  have d4 : decide (n ≤ k) = false := decide_eq_false (by omega)
  have hlen := hr.len
  have hl32 := hr.2.1
  have hp32 := hs.2.1
  have hpl := hs.len
  obtain ⟨b, o, x, hAb, hx, hx32, hrx⟩ := hr.at_ hk
  subst hAb
  obtain ⟨R, hRe⟩ : ∃ R, R = rootF F ls := ⟨_, rfl⟩
  have hR32 : R.length = 32 := by rw [hRe]; exact hr32 n ls hlen hl32
  obtain ⟨L, hL⟩ : ∃ L, L = (turns k n).length := ⟨_, rfl⟩
  obtain ⟨D, hD⟩ : ∃ D, D = comeF F d (turns k n).reverse ps := ⟨_, rfl⟩
  have hD32 : D.length = 32 := by rw [hD]; exact hg32 _ _ _ hd
  obtain ⟨q, hq⟩ : ∃ q, q = (decide (m = L) && (D == R)) := ⟨_, rfl⟩
  obtain ⟨z, hz⟩ : ∃ z, z = (d == x) := ⟨_, rfl⟩
  have hup : ∀ {u w' : World}, OnF w d u → Below u.heap.size u w' → OnF w d w' := fun h hb => h.stable hb
  have HRt : Hid (∀ u, OnF w d u → Calls Try.prog 39 #[.slice (some ⟨b, o, none⟩) n c] u fun e w' => e = .returned (.agg (R.map B8).toArray) ∧ OnF w d w' ∧ Below u.heap.size u w') := Lib.hid fun u hu => by
    have h := hRR n n (Nat.le_refl _) u (some ⟨b, o, none⟩) c ls (hr.below hu.below) hnc hcm (by omega)
    rw [← hRe] at h
    exact h.mono fun e w' ⟨h1, h2⟩ => ⟨h1, hu.stable h2, h2⟩
  have HHo : Hid (∀ u, OnF w d u → Calls Try.prog 62 #[.agg (d.map B8).toArray, .int .i64 (k : Int), .int .i64 (n : Int), .slice B m e, .agg (R.map B8).toArray] u fun e w' => e = .returned (.bool q) ∧ OnF w d w' ∧ Below u.heap.size u w') := Lib.hid fun u hu => by
    by_cases hmL : m = L
    · have h := holds_of u d R D hd hR32 hD32 (k : Int) (n : Int) (.slice B m e) .nilIface (fun u' hu' => by
        have h := hCY u' d hd k n hk (by omega) B m e ps ((hs.below hu.below).below hu') hme (by rw [hmL, hL])
        rw [← hD] at h
        exact h) q (.inl ⟨rfl, by rw [hq]; simp [hmL]⟩)
      exact h.mono fun e w' ⟨h1, h2⟩ => ⟨h1, hu.stable h2, h2⟩
    · have h := holds_of u d R zero32 hd hR32 rfl (k : Int) (n : Int) (.slice B m e) (errV 13) (fun u' hu' => come_len u' d k n hk (by omega) B m e (by rw [← hL]; exact hmL)) q (.inr ⟨13, rfl, by rw [hq]; simp [hmL]⟩)
      exact h.mono fun e w' ⟨h1, h2⟩ => ⟨h1, hu.stable h2, h2⟩
  have HxR : Hid (∀ u, OnF w d u → u.rangeAt b (o + k * 32) (x.map B8)) := Lib.hid fun u hu => rangeAt_below' hrx hu.below
  have HS0 : Hid (∀ u, OnF w d u → OnF w d u.drew) := Lib.hid fun u hu => hu.stable (below_drewN (Below.refl _ _) 1)
  have heq := fun w => run_eql_sum w d x hd hx32
  rw [← hz] at heq
  have hid := info_of d hd
  have hix := info_of x hx32
  have q1 : (0 : Int) ≤ (k : Int) := by omega
  have q2 : (k : Int) < (n : Int) := by omega
  have hu := Try.underlying26
  have eg1 := enters_of Try.func39 (by kernel_rfl) rfl
  have eg2 := enters_of Try.func62 (by kernel_rfl) rfl
  unfold SumV
  cases q with
  | false =>
    clear HFl hRR hCY hRC hTX hCL hAl hg32 hr32 h65 htl hlen hl32 hp32 hpl hrx hRe hL hD hD32 hq hz hup hR32 hd hx32 hx hr hs
    go_enter Try.func65, Try.ntmps65
    go_wp2_with fail
    refine (HA.out _).mono ?_
    rintro e w1 ⟨rfl, hb1⟩
    have h1 := (HX.out _ rfl _ rfl).stable hb1
    have h1d := HS0.out _ h1
    clear hb1
    go_wp2_with fail
    refine wp_region_noPanic ?_
    refine wp_region_moves 16 (fun u => OnF w d u) (fun u u' => Below u.heap.size u u') (fun u => Below.refl _ _) (fun h k => h.trans (k.mono h.size)) (by kernel_rfl) (by kernel_rfl) h1d (fun _ _ _ _ _ h => h) ?_
    simp only [List.take_succ_cons, List.take_zero, List.drop_succ_cons, List.drop_zero]
    refine wpMH_loadW (fun u => Below.refl _ _) (by rfl) _ _ rfl w.heap.size 0 rfl (d.map B8) _ (fun u h => h.r0) Try.underlying26 rfl hid ?_
    simp only [Act.put, List.setIfInBounds_toArray, List.set_cons_zero, List.set_cons_succ]
    refine wpMH_moveW (fun u => Below.refl _ _) (by rfl) _ rfl _ rfl ?_
    simp only [Act.put, List.setIfInBounds_toArray, List.set_cons_zero, List.set_cons_succ]
    refine wpMH_moveW (fun u => Below.refl _ _) (by rfl) _ rfl _ rfl ?_
    simp only [Act.put, List.setIfInBounds_toArray, List.set_cons_zero, List.set_cons_succ]
    refine wpMH_moveW (fun u => Below.refl _ _) (by rfl) _ rfl _ rfl ?_
    simp only [Act.put, List.setIfInBounds_toArray, List.set_cons_zero, List.set_cons_succ]
    refine wpMH_moveW (fun u => Below.refl _ _) (by rfl) _ rfl _ rfl ?_
    simp only [Act.put, List.setIfInBounds_toArray, List.set_cons_zero, List.set_cons_succ]
    refine wpMH_callW (by rfl) 39 _ _ rfl eg1 [.slice (some ⟨b, o, none⟩) n c] rfl (.agg (R.map B8).toArray) (fun u h => HRt.out u h) ?_
    simp only [Act.put, List.setIfInBounds_toArray, List.set_cons_zero, List.set_cons_succ]
    refine wpMH_callW (by rfl) 62 _ _ rfl eg2 [.agg (d.map B8).toArray, .int .i64 (k : Int), .int .i64 (n : Int), .slice B m e, .agg (R.map B8).toArray] rfl (.bool false) (fun u h => HHo.out u h) ?_
    simp only [Act.put, List.setIfInBounds_toArray, List.set_cons_zero, List.set_cons_succ]
    refine wpMH_pureW (fun u => Below.refl _ _) (by rfl) (.bool true) (fun u _ => by rfl) ?_
    simp only [Act.put, List.setIfInBounds_toArray, List.set_cons_zero, List.set_cons_succ]
    refine wpMH_moveW (fun u => Below.refl _ _) (by rfl) _ rfl _ rfl ?_
    simp only [Act.put, List.setIfInBounds_toArray, List.set_cons_zero, List.set_cons_succ]
    refine wpMH_skip (by rfl) ?_
    simp only [Act.put, List.setIfInBounds_toArray, List.set_cons_zero, List.set_cons_succ]
    refine wpMH_skip (by rfl) ?_
    simp only [Act.put, List.setIfInBounds_toArray, List.set_cons_zero, List.set_cons_succ]
    refine wpMH_skip (by rfl) ?_
    simp only [Act.put, List.setIfInBounds_toArray, List.set_cons_zero, List.set_cons_succ]
    refine wpMH_skip (by rfl) ?_
    simp only [Act.put, List.setIfInBounds_toArray, List.set_cons_zero, List.set_cons_succ]
    refine wpMH_skip (by rfl) ?_
    simp only [Act.put, List.setIfInBounds_toArray, List.set_cons_zero, List.set_cons_succ]
    refine wpMH_skip (by rfl) ?_
    simp only [Act.put, List.setIfInBounds_toArray, List.set_cons_zero, List.set_cons_succ]
    refine wpMH_pureW (fun u => Below.refl _ _) (by rfl) (.bool true) (fun u _ => by rfl) ?_
    simp only [Act.put, List.setIfInBounds_toArray, List.set_cons_zero, List.set_cons_succ]
    refine wpMH_nil ?_
    refine wpMT_nil ?_
    intro w6 h6 hM6
    clear hM6 h1 h1d
    refine NoPanic.normal ?_
    go_wp2_with fail
    go_ret
    exact ⟨rfl, h6.below⟩
  | true =>
    have hmL : m = L := by
      have := hq
      simp at this
      exact this.1
    have hDR : D = R := by
      have := hq
      simp at this
      exact this.2
    have hRf : Hid (∀ u, Calls Try.prog 56 #[.int .i64 (k : Int), .int .i64 (n : Int)] u fun e w' => e = .returned (.int .i64 (m : Int)) ∧ u = w') := Lib.hid fun u => by rw [hmL, hL]; exact reflength_any n n (Nat.le_refl _) u k hk (by omega)
    have hmm : ((m : Int) != (m : Int)) = false := by simp
    cases z with
    | true =>
      clear HFl hRR hCY hRC hTX hCL hAl hg32 hr32 h65 htl hlen hl32 hp32 hpl hrx hRe hL hD hD32 hq hz hup hR32 hd hx32 hx hr hs hmL hDR hRf hmm
      go_enter Try.func65, Try.ntmps65
      go_wp2_with fail
      refine (HA.out _).mono ?_
      rintro e w1 ⟨rfl, hb1⟩
      have h1 := (HX.out _ rfl _ rfl).stable hb1
      have h1d := HS0.out _ h1
      clear hb1
      go_wp2_with fail
      refine wp_region_noPanic ?_
      refine wp_region_moves 16 (fun u => OnF w d u) (fun u u' => Below u.heap.size u u') (fun u => Below.refl _ _) (fun h k => h.trans (k.mono h.size)) (by kernel_rfl) (by kernel_rfl) h1d (fun _ _ _ _ _ h => h) ?_
      simp only [List.take_succ_cons, List.take_zero, List.drop_succ_cons, List.drop_zero]
      refine wpMH_loadW (fun u => Below.refl _ _) (by rfl) _ _ rfl w.heap.size 0 rfl (d.map B8) _ (fun u h => h.r0) Try.underlying26 rfl hid ?_
      simp only [Act.put, List.setIfInBounds_toArray, List.set_cons_zero, List.set_cons_succ]
      refine wpMH_moveW (fun u => Below.refl _ _) (by rfl) _ rfl _ rfl ?_
      simp only [Act.put, List.setIfInBounds_toArray, List.set_cons_zero, List.set_cons_succ]
      refine wpMH_moveW (fun u => Below.refl _ _) (by rfl) _ rfl _ rfl ?_
      simp only [Act.put, List.setIfInBounds_toArray, List.set_cons_zero, List.set_cons_succ]
      refine wpMH_moveW (fun u => Below.refl _ _) (by rfl) _ rfl _ rfl ?_
      simp only [Act.put, List.setIfInBounds_toArray, List.set_cons_zero, List.set_cons_succ]
      refine wpMH_moveW (fun u => Below.refl _ _) (by rfl) _ rfl _ rfl ?_
      simp only [Act.put, List.setIfInBounds_toArray, List.set_cons_zero, List.set_cons_succ]
      refine wpMH_callW (by rfl) 39 _ _ rfl eg1 [.slice (some ⟨b, o, none⟩) n c] rfl (.agg (R.map B8).toArray) (fun u h => HRt.out u h) ?_
      simp only [Act.put, List.setIfInBounds_toArray, List.set_cons_zero, List.set_cons_succ]
      refine wpMH_callW (by rfl) 62 _ _ rfl eg2 [.agg (d.map B8).toArray, .int .i64 (k : Int), .int .i64 (n : Int), .slice B m e, .agg (R.map B8).toArray] rfl (.bool true) (fun u h => HHo.out u h) ?_
      simp only [Act.put, List.setIfInBounds_toArray, List.set_cons_zero, List.set_cons_succ]
      refine wpMH_pureW (fun u => Below.refl _ _) (by rfl) (.bool false) (fun u _ => by rfl) ?_
      simp only [Act.put, List.setIfInBounds_toArray, List.set_cons_zero, List.set_cons_succ]
      refine wpMH_moveW (fun u => Below.refl _ _) (by rfl) _ rfl _ rfl ?_
      simp only [Act.put, List.setIfInBounds_toArray, List.set_cons_zero, List.set_cons_succ]
      refine wpMH_loadW (fun u => Below.refl _ _) (by rfl) _ _ rfl w.heap.size 0 rfl (d.map B8) _ (fun u h => h.r0) Try.underlying26 rfl hid ?_
      simp only [Act.put, List.setIfInBounds_toArray, List.set_cons_zero, List.set_cons_succ]
      refine wpMH_moveW (fun u => Below.refl _ _) (by rfl) _ rfl _ rfl ?_
      simp only [Act.put, List.setIfInBounds_toArray, List.set_cons_zero, List.set_cons_succ]
      refine wpMH_moveW (fun u => Below.refl _ _) (by rfl) _ rfl _ rfl ?_
      simp only [Act.put, List.setIfInBounds_toArray, List.set_cons_zero, List.set_cons_succ]
      refine wpMH_pureW (fun u => Below.refl _ _) (by rfl) (.pointer (some ⟨b, o + k * 32, none⟩)) (fun u _ => by go_simp) ?_
      simp only [Act.put, List.setIfInBounds_toArray, List.set_cons_zero, List.set_cons_succ]
      refine wpMH_loadW (fun u => Below.refl _ _) (by rfl) _ _ rfl b (o + k * 32) rfl (x.map B8) _ (fun u h => HxR.out u h) Try.underlying26 rfl hix ?_
      simp only [Act.put, List.setIfInBounds_toArray, List.set_cons_zero, List.set_cons_succ]
      refine wpMH_pureW (fun u => Below.refl _ _) (by rfl) (.bool true) (fun u _ => by go_simp) ?_
      simp only [Act.put, List.setIfInBounds_toArray, List.set_cons_zero, List.set_cons_succ]
      refine wpMH_pureW (fun u => Below.refl _ _) (by rfl) (.bool true) (fun u _ => by rfl) ?_
      simp only [Act.put, List.setIfInBounds_toArray, List.set_cons_zero, List.set_cons_succ]
      refine wpMH_nil ?_
      refine wpMT_nil ?_
      intro w6 h6 hM6
      clear hM6 h1 h1d
      refine NoPanic.normal ?_
      go_wp2_with fail
      go_ret
      exact ⟨rfl, h6.below⟩
    | false =>
      have hdx : d ≠ x := by
        have := hz
        simpa using this
      obtain ⟨T1, hT1⟩ : ∃ T, T = comeT F d (turns k n).reverse ps := ⟨_, rfl⟩
      obtain ⟨T2, hT2⟩ : ∃ T, T = textsF F ls := ⟨_, rfl⟩
      have hT165 : ∀ t ∈ T1, t.length = 65 := by rw [hT1]; exact comeT_65 (fun t => HFl t) _ _ _ hd hp32
      have hT265 : ∀ t ∈ T2, t.length = 65 := by rw [hT2]; exact h65 n ls hlen hl32
      have H65 : Hid (∀ t ∈ T1 ++ T2, t.length ≤ 1000000) := Lib.hid fun t ht => by
        rcases List.mem_append.1 ht with h | h
        · rw [hT165 t h]; decide
        · rw [hT265 t h]; decide
      have hT1l : T1.length = m := by rw [hT1, comeT_len _ _ _ (by rw [List.length_reverse, hpl, hmL, hL]), List.length_reverse, hmL, hL]
      have hT2l : T2.length ≤ n := by rw [hT2]; exact htl n ls hlen
      obtain ⟨m2, hm2⟩ : ∃ m2, m2 = T2.length := ⟨_, rfl⟩
      rw [← hm2] at hT2l
      have Hno : Hid (¬ Clear F (T1 ++ T2)) := Lib.hid fun hcl => hdx (hAl hcl n ls k d x ps hlen hl32 hd hp32 (by rw [hpl, hmL, hL]) hx (fun t h => List.mem_append_right _ (by rw [hT2]; exact h)) (fun t h => List.mem_append_left _ (by rw [hT1]; exact h)) (by rw [← hD, hDR, hRe]))
      have HRC : Hid (∀ u, OnF w d u → Calls Try.prog 57 #[.agg (d.map B8).toArray, .int .i64 (k : Int), .int .i64 (n : Int), .slice B m e] u fun e w' => ∃ A1 c1 us1, e = .returned (.tuple #[.agg (D.map B8).toArray, .slice A1 m c1]) ∧ OnF w d w' ∧ RowT w (.slice A1 m c1) m us1 T1 w') := Lib.hid fun u hu => by
        refine (hRC n n (Nat.le_refl _) u d k B m e ps hd hk (by omega) (hs.below hu.below) hme hem (by rw [hmL, hL])).mono ?_
        rintro e w' ⟨A', c', us, he, h1, h2, hb⟩
        rw [← hD, ← hT1, hT1l] at he
        rw [← hT1, hT1l] at h1
        rw [← hT1] at h2
        exact ⟨A', c', us, he, hu.stable hb, ownsRow_base h1 hu.below.size, h2.base hu.below.size⟩
      have HTX : Hid (∀ u, OnF w d u → Calls Try.prog 41 #[.slice (some ⟨b, o, none⟩) n c] u fun e w' => ∃ A1 c1 us1, e = .returned (.slice A1 m2 c1) ∧ Below u.heap.size u w' ∧ RowT w (.slice A1 m2 c1) m2 us1 T2 w') := Lib.hid fun u hu => by
        refine (hTX n n (Nat.le_refl _) u (some ⟨b, o, none⟩) c ls (hr.below hu.below) hnc hcm (by omega)).mono ?_
        rintro e w' ⟨A', c', us, he, h1, h2, hb⟩
        rw [← hT2, ← hm2] at he h1
        rw [← hT2] at h2
        exact ⟨A', c', us, he, hb, ownsRow_base h1 hu.below.size, h2.base hu.below.size⟩
      have HCL : Hid (∀ (u : World) A1 c1 us1, RowT w (.slice A1 (m + m2) c1) (m + m2) us1 (T1 ++ T2) u → Calls Try.prog 93 #[.slice A1 (m + m2) c1] u fun e w' => e = .returned (.bool true) ∧ Below u.heap.size u w') := Lib.hid fun u A1 c1 us1 hu => by
        obtain ⟨A', c', e', h1, h2, h3, -⟩ := own_form hu.own
        cases e'
        refine (hCL u A1 (m + m2) c1 us1 (T1 ++ T2) h3 h1 h2 hu.elts.1 (fun k u x hu' hx => hu.elts.sb k u x hu' hx) H65.out (by omega)).mono ?_
        rintro e w' ⟨bb, he, hcl, hb⟩
        cases bb with
        | true => exact ⟨he, hb⟩
        | false => exact absurd (hcl rfl) Hno.out
      have hiD := info_of' D hD32
      have HD32 := Lib.hid hD32
      have em2 : (m : Int) + (m2 : Int) = ((m + m2 : Nat) : Int) := by omega
      clear HFl hRR hCY hRC hTX hCL hAl hg32 hr32 h65 htl hlen hl32 hp32 hpl hrx hRe hL hD hD32 hq hz hup hR32 hd hx32 hx hr hs hmL hDR hdx hT1 hT2 hT165 hT265 hT1l hm2
      go_enter Try.func65, Try.ntmps65
      go_wp2_with fail
      refine (HA.out _).mono ?_
      rintro e w1 ⟨rfl, hb1⟩
      have h1 := (HX.out _ rfl _ rfl).stable hb1
      have h1d := HS0.out _ h1
      clear hb1
      go_wp2_with fail
      refine wp_region_noPanic ?_
      refine wp_region_moves 16 (fun u => OnF w d u) (fun u u' => Below u.heap.size u u') (fun u => Below.refl _ _) (fun h k => h.trans (k.mono h.size)) (by kernel_rfl) (by kernel_rfl) h1d (fun _ _ _ _ _ h => h) ?_
      simp only [List.take_succ_cons, List.take_zero, List.drop_succ_cons, List.drop_zero]
      refine wpMH_loadW (fun u => Below.refl _ _) (by rfl) _ _ rfl w.heap.size 0 rfl (d.map B8) _ (fun u h => h.r0) Try.underlying26 rfl hid ?_
      simp only [Act.put, List.setIfInBounds_toArray, List.set_cons_zero, List.set_cons_succ]
      refine wpMH_moveW (fun u => Below.refl _ _) (by rfl) _ rfl _ rfl ?_
      simp only [Act.put, List.setIfInBounds_toArray, List.set_cons_zero, List.set_cons_succ]
      refine wpMH_moveW (fun u => Below.refl _ _) (by rfl) _ rfl _ rfl ?_
      simp only [Act.put, List.setIfInBounds_toArray, List.set_cons_zero, List.set_cons_succ]
      refine wpMH_moveW (fun u => Below.refl _ _) (by rfl) _ rfl _ rfl ?_
      simp only [Act.put, List.setIfInBounds_toArray, List.set_cons_zero, List.set_cons_succ]
      refine wpMH_moveW (fun u => Below.refl _ _) (by rfl) _ rfl _ rfl ?_
      simp only [Act.put, List.setIfInBounds_toArray, List.set_cons_zero, List.set_cons_succ]
      refine wpMH_callW (by rfl) 39 _ _ rfl eg1 [.slice (some ⟨b, o, none⟩) n c] rfl (.agg (R.map B8).toArray) (fun u h => HRt.out u h) ?_
      simp only [Act.put, List.setIfInBounds_toArray, List.set_cons_zero, List.set_cons_succ]
      refine wpMH_callW (by rfl) 62 _ _ rfl eg2 [.agg (d.map B8).toArray, .int .i64 (k : Int), .int .i64 (n : Int), .slice B m e, .agg (R.map B8).toArray] rfl (.bool true) (fun u h => HHo.out u h) ?_
      simp only [Act.put, List.setIfInBounds_toArray, List.set_cons_zero, List.set_cons_succ]
      refine wpMH_pureW (fun u => Below.refl _ _) (by rfl) (.bool false) (fun u _ => by rfl) ?_
      simp only [Act.put, List.setIfInBounds_toArray, List.set_cons_zero, List.set_cons_succ]
      refine wpMH_moveW (fun u => Below.refl _ _) (by rfl) _ rfl _ rfl ?_
      simp only [Act.put, List.setIfInBounds_toArray, List.set_cons_zero, List.set_cons_succ]
      refine wpMH_loadW (fun u => Below.refl _ _) (by rfl) _ _ rfl w.heap.size 0 rfl (d.map B8) _ (fun u h => h.r0) Try.underlying26 rfl hid ?_
      simp only [Act.put, List.setIfInBounds_toArray, List.set_cons_zero, List.set_cons_succ]
      refine wpMH_moveW (fun u => Below.refl _ _) (by rfl) _ rfl _ rfl ?_
      simp only [Act.put, List.setIfInBounds_toArray, List.set_cons_zero, List.set_cons_succ]
      refine wpMH_moveW (fun u => Below.refl _ _) (by rfl) _ rfl _ rfl ?_
      simp only [Act.put, List.setIfInBounds_toArray, List.set_cons_zero, List.set_cons_succ]
      refine wpMH_pureW (fun u => Below.refl _ _) (by rfl) (.pointer (some ⟨b, o + k * 32, none⟩)) (fun u _ => by go_simp) ?_
      simp only [Act.put, List.setIfInBounds_toArray, List.set_cons_zero, List.set_cons_succ]
      refine wpMH_loadW (fun u => Below.refl _ _) (by rfl) _ _ rfl b (o + k * 32) rfl (x.map B8) _ (fun u h => HxR.out u h) Try.underlying26 rfl hix ?_
      simp only [Act.put, List.setIfInBounds_toArray, List.set_cons_zero, List.set_cons_succ]
      refine wpMH_pureW (fun u => Below.refl _ _) (by rfl) (.bool false) (fun u _ => by go_simp) ?_
      simp only [Act.put, List.setIfInBounds_toArray, List.set_cons_zero, List.set_cons_succ]
      refine wpMH_pureW (fun u => Below.refl _ _) (by rfl) (.bool false) (fun u _ => by rfl) ?_
      simp only [Act.put, List.setIfInBounds_toArray, List.set_cons_zero, List.set_cons_succ]
      refine wpMH_nil ?_
      refine wpMT_nil ?_
      intro w6 h6 hM6
      clear hM6 h1 h1d
      refine NoPanic.normal ?_
      go_wp2_with (first
        | (go_at_call 56; refine (hRf.out _).mono ?_; rintro e w7 ⟨rfl, rfl⟩)
        | ((with_reducible show wpList _ _ _ (⟨_, Op.load 26 (.tmp 6), _, _, _, _⟩ :: _) _ _); refine wpList_load_mid rfl _ _ rfl w.heap.size 0 rfl (d.map B8) _ h6.r0 Try.underlying26 rfl hid ?_; simp only [Act.put, List.setIfInBounds_toArray, List.set_cons_zero, List.set_cons_succ]))
      refine (HRC.out _ h6).mono ?_
      rintro e w8 ⟨A1, c1, us1, rfl, h8, hr8⟩
      have H8 := Lib.hid (And.intro h8 hr8)
      clear h6 h8 hr8
      go_wp2_with ((with_reducible show wpList _ _ _ (⟨_, Op.store 26 (.tmp 10) _, _, _, _, _⟩ :: _) _ _); refine wpList_store_row rfl _ _ _ rfl w8.heap.size 0 (D.map B8).toArray rfl rfl (there_new' _ _ _ (by simp [HD32.out])) hiD (b8_all D) ?_; intro w9 hg9 hs9 ht9 hth9; rw [List.toList_toArray] at ht9; have hb9 : Below w8.heap.size w8 w9 := ((Below.refl _ _).alloc (Nat.le_refl _) _).grown hg9 (by simp) (by intro k hk; cases hk; exact Nat.le_refl _); have H9 := Lib.hid (And.intro (H8.out.1.stable hb9) (H8.out.2.stable hb9)); clear hg9 hs9 hth9 ht9 hb9)
      refine (HTX.out _ H9.out.1).mono ?_
      rintro e w10 ⟨A2, c2, us2, rfl, hb10, hr10⟩
      have H10 := Lib.hid (And.intro (H9.out.1.stable hb10) (And.intro (H9.out.2.stable hb10) hr10))
      clear hb10 hr10
      go_wp2_with (at_builtin; refine wpList_append_keep rfl (.tmp 62) (.tmp 64) 35 rfl w H10.out.1.below Try.underlying35 info_row3 rfl (by decide) (.slice A1 m c1) m us1 rfl H10.out.2.1.own A2 m2 c2 us2 rfl (own_rc H10.out.2.2.own) (by have := H10.out.2.2.own.1; omega) (elts_one H10.out.2.2.elts) (by unfold maxLen; omega) (by omega) ?_; intro v7 w7 hown7 hb7 _ hg7 _; obtain ⟨AT, cT, rfl, -, -, -, -⟩ := own_form hown7; have H7 : Hid (RowT w (.slice AT (m + m2) cT) (m + m2) (us1 ++ us2) (T1 ++ T2) w7 ∧ Below w.heap.size w w7) := Lib.hid ⟨⟨hown7, (H10.out.2.1.elts.kept H10.out.2.1.own (by decide) hg7).app (H10.out.2.2.elts.kept H10.out.2.1.own (by decide) hg7)⟩, hb7⟩; clear hown7 hb7 hg7)
      refine (HCL.out _ _ _ _ H7.out.1).mono ?_
      rintro e w12 ⟨rfl, hb12⟩
      go_wp2_with fail
      go_ret
      exact ⟨rfl, H7.out.2.trans (hb12.mono H7.out.2.size)⟩
theorem only_any (w : World) (L V : Value) (d : Dg) (hd : d.length = 32) (i : Int) (ls ps : List Dg) (hL : SS w L ls) (hV : SS w V ps) :
    Calls Try.prog 65 #[L, .int .i64 i, SumV d, V] w fun e w' => e = .returned (.bool true) ∧ Below w.heap.size w w' := by
  obtain ⟨A, n, c, rfl, hnc, hcm, hr⟩ := hL
  obtain ⟨B, m, e, rfl, hme, hem, hs⟩ := hV
  by_cases h : 100 < n ∨ 100 < m ∨ i < 0 ∨ (n : Int) ≤ i
  · exact only_out w d A B n c m e i h
  · obtain ⟨k, rfl⟩ : ∃ k : Nat, i = (k : Int) := ⟨i.toNat, by omega⟩
    exact only_in w d hd A B n c m e k ls ps hr hs hnc hcm hme hem (by omega) (by omega) (by omega)
set_option maxRecDepth 100000 in
set_option maxHeartbeats 2000000 in
theorem proofAlone_law (w : World) (L V : Value) (ls ps : List Dg) (i : Int) (l : Dg) (hL : SS w L ls) (hl : l.length = 32) (hV : SS w V ps) :
    Calls Try.prog 16 #[.agg ([L, .int .i64 i] ++ (l.map B8 ++ [V])).toArray] w fun e w' => e = .returned (.bool true) ∧ Below w.heap.size w w' := by
  obtain ⟨cs, hcs⟩ : ∃ cs, cs = [L, .int .i64 i] ++ (l.map B8 ++ [V]) := ⟨_, rfl⟩
  rw [← hcs]
  have hX : Hid (∀ W, W = w.alloc (.cells cs.toArray 81) → Below w.heap.size w W ∧ W.cell? ⟨w.heap.size, 0, none⟩ = some L ∧ W.cell? ⟨w.heap.size, 1, none⟩ = some (.int .i64 i) ∧ W.rangeAt w.heap.size 2 (l.map B8) ∧ W.cell? ⟨w.heap.size, 34, none⟩ = some V) := Lib.hid (by
    rintro W rfl
    have h0 : (w.alloc (.cells cs.toArray 81)).rangeAt w.heap.size 0 cs := rangeAt_at _ _ _ _ _ rfl
    have hb : Below w.heap.size w (w.alloc (.cells cs.toArray 81)) := (Below.refl _ _).alloc (Nat.le_refl _) _
    generalize w.alloc (.cells cs.toArray 81) = W at *
    rw [hcs] at h0
    obtain ⟨h1, h2⟩ := range_app h0
    obtain ⟨h2, h3⟩ := range_app h2
    rw [List.length_map, hl] at h3
    have c1 := range_app (a := [L]) (b := [.int .i64 i]) h1
    exact ⟨hb, range_cell c1.1, range_cell c1.2, h2, range_cell h3⟩)
  have hC := fun u (h1 : SS u L ls) (h2 : SS u V ps) => only_any u L V l hl i ls ps h1 h2
  have HC := Lib.hid hC
  have HV := Lib.hid (And.intro hL hV)
  have hi1 := info_of l hl
  clear hcs hC hV hL hl
  unfold SumV at HC
  go_enter Try.func16, Try.ntmps16
  go_wp2_with (first
    | ((with_reducible show wpList _ _ _ (⟨_, Op.load 42 (.tmp 3), _, _, _, _⟩ :: _) _ _); obtain ⟨W, hW⟩ : ∃ W, W = w.alloc (.cells cs.toArray 81) := ⟨_, rfl⟩; obtain ⟨hb, c0, c1, h1, c2⟩ := hX.out W hW; rw [← hW]; clear hW)
    | ((with_reducible show wpList _ _ _ (⟨_, Op.load 26 (.tmp 7), _, _, _, _⟩ :: _) _ _); refine wpList_load_mid rfl _ _ rfl w.heap.size 2 rfl (l.map B8) _ h1 Try.underlying26 rfl hi1 ?_; simp only [Act.put, List.setIfInBounds_toArray, List.set_cons_zero, List.set_cons_succ]))
  refine (HC.out W (HV.out.1.below hb) (HV.out.2.below hb)).mono ?_
  rintro e w9 ⟨rfl, hb9⟩
  go_wp2_with fail
  go_ret
  exact ⟨rfl, hb.trans (hb9.mono hb.size)⟩
end Go.Proofs.Ytkcmacglomdfcaa
