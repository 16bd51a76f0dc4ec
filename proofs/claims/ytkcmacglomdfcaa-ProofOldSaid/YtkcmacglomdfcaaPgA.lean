/-
  THE WALKS of alive in cachetlaw10, and of the law ProofPaths.
-/
import Derived.Test.YtkcmacglomdfcaaPfG
import Derived.Test.YtkcmacglomdfcaaPfI
import Derived.Test.YtkcmacglomdfcaaErr
namespace Go.Proofs.Ytkcmacglomdfcaa
open Go.RowKit

theorem turns45 : (turns 4 5).length = 1 := by decide
theorem turns05 : (turns 0 5).length = 3 := by decide
def zrow5 : List Dg := List.replicate 5 zero32
theorem zrow5_len : ∀ x ∈ zrow5, x.length = 32 := by intro x hx; rw [List.eq_of_mem_replicate hx]; rfl
set_option maxRecDepth 100000 in
set_option maxHeartbeats 1000000 in
theorem alive10_any (w : World) : Calls Try.prog 58 #[] w fun e w' => e = .returned (.bool true) ∧ Below w.heap.size w w' := by
  have hP := path_any dig
  have hpl := fun i => pathF_len (F := digest32 K32 H32) 5 zrow5 i rfl
  generalize digest32 K32 H32 = F at hP hpl
  have HP := Lib.hid hP
  have h4 : (pathF F zrow5 4).length = 1 := by rw [hpl]; exact turns45
  have h0 : (pathF F zrow5 0).length = 3 := by rw [hpl]; exact turns05
  have H4 := Lib.hid h4
  have H0 := Lib.hid h0
  have hL := fun w => length_yes w 0 5 (by omega) (by omega)
  rw [turns05] at hL
  have HL := Lib.hid hL
  have hmk : ∀ w, (Instr.makeSlice 42 (.int .i64 5) (.int .i64 5)).run Try.prog w = .ok (.slice (some ⟨w.heap.size, 0, none⟩) 5 5) (w.alloc (.cells (zrow5.flatten.map B8).toArray 26)) := fun _ => by kernel_rfl
  obtain ⟨z5, hz5⟩ : ∃ z5, z5 = zrow5.flatten.map B8 := ⟨_, rfl⟩
  simp only [← hz5] at hmk
  have HZ := Lib.hid hz5
  clear hz5
  clear hP hpl h4 h0 hL
  go_enter Try.func58, Try.ntmps58
  go_wp2_with fail
  obtain ⟨w1, hw1⟩ : ∃ w1, w1 = w.alloc (.cells z5.toArray 26) := ⟨_, rfl⟩
  have hb1 : Below w.heap.size w w1 := by rw [hw1]; exact (Below.refl _ _).alloc (Nat.le_refl _) _
  have hr1 : RS w1 (some ⟨w.heap.size, 0, none⟩) 5 zrow5 := RS.of_rangeAt zrow5_len rfl (by rw [hw1, ← HZ.out]; exact rangeAt_at _ _ _ _ _ rfl)
  rw [← hw1]
  clear hw1 hmk
  refine (HP.out w1 _ 5 5 zrow5 hr1 (Nat.le_refl _) (by unfold maxLen; omega) (by omega) 4 (by omega)).mono ?_
  rintro e w2 ⟨A2, c2, rfl, -, -, hb2⟩
  rw [H4.out]
  have hb02 := hb1.trans (hb2.mono hb1.size)
  have hr2 := hr1.below hb2
  clear hb2
  go_wp2_with fail
  refine (HP.out w2 _ 5 5 zrow5 hr2 (Nat.le_refl _) (by unfold maxLen; omega) (by omega) 0 (by omega)).mono ?_
  rintro e w3 ⟨A3, c3, rfl, -, -, hb3⟩
  rw [H0.out]
  have hb03 := hb02.trans (hb3.mono hb02.size)
  clear hb3 hr1 hr2
  go_wp2_with fail
  refine (HL.out w3).mono ?_
  rintro e w4 ⟨rfl, hb4⟩
  go_wp2_with fail
  go_ret
  exact ⟨rfl, hb03.trans (hb4.mono hb03.size)⟩
theorem same_any (w : World) (A B : Option Addr) (n m c d : Nat) (a b : List Dg) (ha : RS w A n a) (hb : RS w B m b) (hn : n ≤ maxLen) :
    Calls Try.prog 60 #[.slice A n c, .slice B m d] w fun e w' => e = .returned (.bool (a == b)) ∧ Below w.heap.size w w' := by
  have h := sums_any w A B n m c d a b ha hb hn
  have H := Lib.hid h
  clear h ha hb hn
  obtain ⟨q, hq⟩ : ∃ q, q = (a == b) := ⟨_, rfl⟩
  rw [← hq] at H ⊢
  clear hq
  go_enter Try.func60, Try.ntmps60
  go_wp2_with fail
  refine H.out.mono ?_
  rintro e w1 ⟨rfl, hb1⟩
  go_wp2_with fail
  go_ret
  exact ⟨rfl, hb1⟩
theorem RowPost.rs {w w' : World} {ps : List Dg} {A : Option Addr} {c : Nat} (h : w'.ownsRow w.heap.size 26 32 (.slice A ps.length c) ps.length (ps.flatten.map B8)) (h32 : ∀ x ∈ ps, x.length = 32) : RS w' A ps.length ps := by
  obtain ⟨A', n', c', e, _, _, hr⟩ := SS.of_own h h32 rfl
  cases e
  exact hr
set_option maxRecDepth 100000 in
set_option maxHeartbeats 4000000 in
theorem proofPaths_law (w : World) (v : Value) (ls : List Dg) (hv : SS w v ls) (i : Int) (hi : (Lit.int .i64 i).wf = true) : Calls Try.prog 14 #[v, .int .i64 i] w fun e w' => e = .returned (.bool true) ∧ Below w.heap.size w w' := by
  obtain ⟨A, n, c, rfl, hnc, hcm, hr⟩ := hv
  obtain ⟨hi0, hi1⟩ := bounds_i64 hi
  have hcm' := hcm
  unfold maxLen at hcm
  have hA := alive10_any
  have hP := path_any dig
  have hRP := refpath_any dig
  have hRR := refroot_any dig
  have hCY := come_yes dig
  have hH := path_holds (F := digest32 K32 H32)
  have hpl := pathF_len (F := digest32 K32 H32)
  have hp32 := pathF_32 dig.len
  have hr32 := rootF_len dig.len
  generalize digest32 K32 H32 = F at hP hRP hRR hCY hH hpl hp32 hr32
  have HA := Lib.hid hA
  clear hA
  by_cases hbig : 100 < n
  · have db : decide ((100 : Int) < (n : Int)) = true := decide_eq_true (by omega)
    clear hP hRP hRR hCY hH hpl hp32 hr32 hr
    go_enter Try.func14, Try.ntmps14
    go_wp2_with (go_at_call 58; refine (HA.out _).mono ?_; rintro e w1 ⟨rfl, hb1⟩)
    go_ret
    exact ⟨rfl, hb1⟩
  · have db : decide ((100 : Int) < (n : Int)) = false := decide_eq_false (by omega)
    have hl32 := hr.2.1
    have hlen := hr.len
    have hfl := flat_len ls hl32
    have Hlen := Lib.hid hlen
    have Hfl := Lib.hid hfl
    have Hl32 := Lib.hid hl32
    by_cases hin : i < 0 ∨ (n : Int) ≤ i
    · have hbad := fun w A c => path_bad w A n c i (by omega) (by omega)
      have Hbad := Lib.hid hbad
      have his := fun w => is_err w 2 2 (by decide)
      have His := Lib.hid his
      have Hin := Lib.hid hin
      clear hP hRP hRR hCY hH hpl hp32 hr32 hlen hfl hl32 hbad his hin
      rcases Hin.out with hlt | hge
      · have d1 : decide (i < 0) = true := decide_eq_true hlt
        go_enter Try.func14, Try.ntmps14
        go_wp2_with (first
          | (go_at_call 58; refine (HA.out _).mono ?_; rintro e w1 ⟨rfl, hb1⟩)
          | (at_builtin; refine wpList_append_row rfl (.tmp 15) (.tmp 16) 42 rfl w1 ((Below.refl _ _).alloc (Nat.le_refl _) _) Try.underlying42 info_sum3 rfl (by decide) (.slice (some ⟨w1.heap.size, 0, none⟩) 0 0) 0 [] rfl (ownsRow_empty w1 _ _ (Nat.le_refl _)) A n c (ls.flatten.map B8) rfl ((hr.below hb1).below ((Below.refl _ _).alloc (Nat.le_refl _) _)).rc (by rw [List.length_map, Hfl.out, Hlen.out]) (b8_oneCell _) (by unfold maxLen; omega) (by omega) ?_; intro v3 w3 hown3 hb3; rw [Nat.zero_add, List.nil_append] at hown3; obtain ⟨A3, c3, rfl, hc3, hc3m, -⟩ := own_formK hown3; clear hown3)
          | (go_at_call 59; refine (Hbad.out _ _ _).mono ?_; rintro e w4 ⟨rfl, rfl⟩)
          | (go_at_call 46; refine (His.out _).mono ?_; rintro e w5 ⟨rfl, rfl⟩))
        go_ret
        exact ⟨rfl, hb1.trans (hb3.mono hb1.size)⟩
      · have d1 : decide (i < 0) = false := decide_eq_false (by omega)
        have d2 : decide ((n : Int) ≤ i) = true := decide_eq_true hge
        go_enter Try.func14, Try.ntmps14
        go_wp2_with (first
          | (go_at_call 58; refine (HA.out _).mono ?_; rintro e w1 ⟨rfl, hb1⟩)
          | (at_builtin; refine wpList_append_row rfl (.tmp 15) (.tmp 16) 42 rfl w1 ((Below.refl _ _).alloc (Nat.le_refl _) _) Try.underlying42 info_sum3 rfl (by decide) (.slice (some ⟨w1.heap.size, 0, none⟩) 0 0) 0 [] rfl (ownsRow_empty w1 _ _ (Nat.le_refl _)) A n c (ls.flatten.map B8) rfl ((hr.below hb1).below ((Below.refl _ _).alloc (Nat.le_refl _) _)).rc (by rw [List.length_map, Hfl.out, Hlen.out]) (b8_oneCell _) (by unfold maxLen; omega) (by omega) ?_; intro v3 w3 hown3 hb3; rw [Nat.zero_add, List.nil_append] at hown3; obtain ⟨A3, c3, rfl, hc3, hc3m, -⟩ := own_formK hown3; clear hown3)
          | (go_at_call 59; refine (Hbad.out _ _ _).mono ?_; rintro e w4 ⟨rfl, rfl⟩)
          | (go_at_call 46; refine (His.out _).mono ?_; rintro e w5 ⟨rfl, rfl⟩))
        go_ret
        exact ⟨rfl, hb1.trans (hb3.mono hb1.size)⟩
    · obtain ⟨k, rfl⟩ : ∃ k : Nat, i = (k : Int) := ⟨i.toNat, by omega⟩
      have hk : k < n := by omega
      have d1 : decide ((k : Int) < 0) = false := decide_eq_false (by omega)
      have d2 : decide (n ≤ k) = false := decide_eq_false (by omega)
      obtain ⟨b, o, x, hAb, hx, hx32, hrx⟩ := hr.at_ hk
      subst hAb
      obtain ⟨P, hPe⟩ : ∃ P, P = pathF F ls k := ⟨_, rfl⟩
      obtain ⟨R, hRe⟩ : ∃ R, R = rootF F ls := ⟨_, rfl⟩
      obtain ⟨m, hme⟩ : ∃ m, m = P.length := ⟨_, rfl⟩
      have hP32 := hp32 n ls k hlen hl32
      have hR32 := hr32 n ls hlen hl32
      have hml : m = (turns k n).length := by rw [hme, hPe]; exact hpl n ls k hlen
      have hmn : m ≤ n := by rw [hml]; exact turns_len n k
      have hcome : comeF F x (turns k n).reverse P = R := by rw [hPe, hRe]; exact hH n ls k x hlen hx
      rw [← hPe] at hP32
      rw [← hRe] at hR32
      have HPth : Hid (∀ u A3 c3, RS u A3 n ls → n ≤ c3 → c3 ≤ maxLen → Calls Try.prog 59 #[.slice A3 n c3, .int .i64 (k : Int)] u fun e w' => ∃ A c, e = .returned (.tuple #[.slice A m c, .nilIface]) ∧ m ≤ c ∧ RS w' A m P ∧ Below u.heap.size u w') := Lib.hid fun u A3 c3 h1 h2 h3 => by
        have h := hP u A3 n c3 ls h1 h2 h3 (by omega) k hk
        rw [← hPe] at h
        unfold PathPost at h
        rw [← hme] at h
        exact h
      have HRp : Hid (∀ u, RS u (some ⟨b, o, none⟩) n ls → Calls Try.prog 61 #[.slice (some ⟨b, o, none⟩) n c, .int .i64 (k : Int)] u fun e w' => ∃ A c, e = .returned (.slice A m c) ∧ RS w' A m P ∧ Below u.heap.size u w') := Lib.hid fun u h1 => by
        refine (hRP n n (Nat.le_refl _) u (some ⟨b, o, none⟩) c ls k h1 hnc hcm' (by omega) hk).mono ?_
        rintro e w' ⟨A, c, he, ho, hb⟩
        rw [← hPe] at he ho
        have hrs := RowPost.rs ho hP32
        rw [← hme] at he hrs
        exact ⟨A, c, he, hrs, hb⟩
      have HRr : Hid (∀ u, RS u (some ⟨b, o, none⟩) n ls → Calls Try.prog 39 #[.slice (some ⟨b, o, none⟩) n c] u fun e w' => e = .returned (.agg (R.map B8).toArray) ∧ Below u.heap.size u w') := Lib.hid fun u h1 => by
        have h := hRR n n (Nat.le_refl _) u (some ⟨b, o, none⟩) c ls h1 hnc hcm' (by omega)
        rw [← hRe] at h
        exact h
      have HHo : Hid (∀ u A4 c4, RS u A4 m P → m ≤ c4 → Calls Try.prog 62 #[.agg (x.map B8).toArray, .int .i64 (k : Int), .int .i64 (n : Int), .slice A4 m c4, .agg (R.map B8).toArray] u fun e w' => e = .returned (.bool true) ∧ Below u.heap.size u w') := Lib.hid fun u A4 c4 h1 h2 =>
        holds_of u x R R hx32 hR32 hR32 (k : Int) (n : Int) (.slice A4 m c4) .nilIface (fun u' hu' => by
          have h := hCY u' x hx32 k n hk (by omega) A4 m c4 P (h1.below hu') h2 hml
          rw [hcome] at h
          exact h) true (.inl ⟨rfl, by simp⟩)
      have HLe : Hid (∀ u, Calls Try.prog 63 #[.int .i64 (k : Int), .int .i64 (n : Int)] u fun e w' => e = .returned (.int .i64 (m : Int)) ∧ Below u.heap.size u w') := Lib.hid fun u => by
        have h := length_yes u k n hk (by omega)
        rw [← hml] at h
        exact h
      have HS1 : Hid (∀ u A4 c4 A5 c5, RS u A4 m P → RS u A5 m P → Calls Try.prog 60 #[.slice A4 m c4, .slice A5 m c5] u fun e w' => e = .returned (.bool true) ∧ Below u.heap.size u w') := Lib.hid fun u A4 c4 A5 c5 h1 h2 => by
        have h := same_any u A4 A5 m m c4 c5 P P h1 h2 (by unfold maxLen; omega)
        rw [beq_self_eq_true] at h
        exact h
      have HS2 : Hid (∀ u A3 c3, RS u A3 n ls → RS u (some ⟨b, o, none⟩) n ls → Calls Try.prog 60 #[.slice A3 n c3, .slice (some ⟨b, o, none⟩) n c] u fun e w' => e = .returned (.bool true) ∧ Below u.heap.size u w') := Lib.hid fun u A3 c3 h1 h2 => by
        have h := same_any u A3 _ n n c3 c ls ls h1 h2 (by unfold maxLen; omega)
        rw [beq_self_eq_true] at h
        exact h
      have hi1 := info_of x hx32
      have hu := Try.underlying26
      have q1 : (0 : Int) ≤ (k : Int) := by omega
      have q2 : (k : Int) < (n : Int) := by omega
      have Hrx := Lib.hid (And.intro hrx hr)
      clear hP hRP hRR hCY hH hpl hp32 hr32 hlen hfl hl32 hx hPe hRe hme hP32 hR32 hml hcome hrx
      go_enter Try.func14, Try.ntmps14
      go_wp2_with (first
        | (go_at_call 58; refine (HA.out _).mono ?_; rintro e w1 ⟨rfl, hb1⟩)
        | (at_builtin; refine wpList_append_row rfl (.tmp 15) (.tmp 16) 42 rfl w1 ((Below.refl _ _).alloc (Nat.le_refl _) _) Try.underlying42 info_sum3 rfl (by decide) (.slice (some ⟨w1.heap.size, 0, none⟩) 0 0) 0 [] rfl (ownsRow_empty w1 _ _ (Nat.le_refl _)) (some ⟨b, o, none⟩) n c (ls.flatten.map B8) rfl ((hr.below hb1).below ((Below.refl _ _).alloc (Nat.le_refl _) _)).rc (by rw [List.length_map, Hfl.out, Hlen.out]) (b8_oneCell _) (by unfold maxLen; omega) (by omega) ?_; intro v3 w3 hown3 hb3; rw [Nat.zero_add, List.nil_append] at hown3; have H3 := Lib.hid (And.intro (SS.of_own hown3 Hl32.out Hlen.out) hb3); obtain ⟨A3, c3, rfl, hc3, hc3m, -⟩ := own_formK hown3; clear hown3 hb3))
      obtain ⟨hs3, hb3⟩ := H3.out
      obtain ⟨A3', n3', c3', e3, -, -, hrs3⟩ := hs3
      cases e3
      have hb03 := hb1.trans (hb3.mono hb1.size)
      refine (HPth.out w3 A3 c3 hrs3 hc3 hc3m).mono ?_
      rintro e w4 ⟨A4, c4, rfl, hmc4, hrs4, hb4⟩
      have hb04 := hb03.trans (hb4.mono hb03.size)
      have hF : ∀ u, Below w4.heap.size w4 u → RS u A4 m P ∧ RS u A3 n ls ∧ RS u (some ⟨b, o, none⟩) n ls ∧ u.rangeAt b (o + k * 32) (x.map B8) := fun u hu =>
        ⟨hrs4.below hu, (hrs3.below hb4).below hu, (Hrx.out.2.below hb04).below hu, rangeAt_below' (rangeAt_below' Hrx.out.1 hb04) hu⟩
      have up : ∀ {u w' : World}, Below w4.heap.size w4 u → Below u.heap.size u w' → Below w4.heap.size w4 w' := fun hu h => hu.trans (h.mono hu.size)
      have K1 : Hid (∀ u, Below w4.heap.size w4 u → Calls Try.prog 61 #[.slice (some ⟨b, o, none⟩) n c, .int .i64 (k : Int)] u fun e w' => ∃ A c, e = .returned (.slice A m c) ∧ RS w' A m P ∧ Below w4.heap.size w4 w') := Lib.hid fun u hu =>
        (HRp.out u (hF u hu).2.2.1).mono fun e w' ⟨A, c, h1, h2, h3⟩ => ⟨A, c, h1, h2, up hu h3⟩
      have K2 : Hid (∀ u A5 c5, Below w4.heap.size w4 u → RS u A5 m P → Calls Try.prog 60 #[.slice A4 m c4, .slice A5 m c5] u fun e w' => e = .returned (.bool true) ∧ Below w4.heap.size w4 w') := Lib.hid fun u A5 c5 hu h5 =>
        (HS1.out u A4 c4 A5 c5 (hF u hu).1 h5).mono fun e w' ⟨h1, h3⟩ => ⟨h1, up hu h3⟩
      have K3 : Hid (∀ u, Below w4.heap.size w4 u → Calls Try.prog 60 #[.slice A3 n c3, .slice (some ⟨b, o, none⟩) n c] u fun e w' => e = .returned (.bool true) ∧ Below w4.heap.size w4 w') := Lib.hid fun u hu =>
        (HS2.out u A3 c3 (hF u hu).2.1 (hF u hu).2.2.1).mono fun e w' ⟨h1, h3⟩ => ⟨h1, up hu h3⟩
      have K4 : Hid (∀ u, Below w4.heap.size w4 u → Calls Try.prog 39 #[.slice (some ⟨b, o, none⟩) n c] u fun e w' => e = .returned (.agg (R.map B8).toArray) ∧ Below w4.heap.size w4 w') := Lib.hid fun u hu =>
        (HRr.out u (hF u hu).2.2.1).mono fun e w' ⟨h1, h3⟩ => ⟨h1, up hu h3⟩
      have K5 : Hid (∀ u, Below w4.heap.size w4 u → Calls Try.prog 62 #[.agg (x.map B8).toArray, .int .i64 (k : Int), .int .i64 (n : Int), .slice A4 m c4, .agg (R.map B8).toArray] u fun e w' => e = .returned (.bool true) ∧ Below w4.heap.size w4 w') := Lib.hid fun u hu =>
        (HHo.out u A4 c4 (hF u hu).1 hmc4).mono fun e w' ⟨h1, h3⟩ => ⟨h1, up hu h3⟩
      have K6 : Hid (∀ u, Below w4.heap.size w4 u → Calls Try.prog 63 #[.int .i64 (k : Int), .int .i64 (n : Int)] u fun e w' => e = .returned (.int .i64 (m : Int)) ∧ Below w4.heap.size w4 w') := Lib.hid fun u hu =>
        (HLe.out u).mono fun e w' ⟨h1, h3⟩ => ⟨h1, up hu h3⟩
      have HF := Lib.hid (fun u hu => (hF u hu).2.2.2)
      have HB := Lib.hid hb04
      have HS0 : Hid (Below w4.heap.size w4 w4.drew) := Lib.hid (below_drewN (Below.refl _ _) 1)
      clear hb1 hb3 hb4 hb03 hb04 hrs3 hrs4 hF H3 hmc4 hc3 hc3m up HRp HS1 HS2 HRr HHo HLe HPth Hrx
      go_wp2_with fail
      go_region_held3 (fun u => Below w4.heap.size w4 u ∧ u.rangeAt b (o + k * 32) (x.map B8))
        (first | exact ⟨HS0.out, HF.out _ HS0.out⟩ | exact ⟨by assumption, HF.out _ (by assumption)⟩)
        (first
          | (go_at_call 61; (with_reducible refine (K1.out _ HS0.out).mono ?_); rintro e w5 ⟨A5, c5, rfl, hrs5, hb5⟩)
          | (go_at_call 60; (with_reducible refine (K2.out _ _ _ (by assumption) hrs5).mono ?_); rintro e w6 ⟨rfl, hb6⟩)
          | (go_at_call 60; (with_reducible refine (K3.out _ (by assumption)).mono ?_); rintro e w7 ⟨rfl, hb7⟩)
          | (go_at_call 39; (with_reducible refine (K4.out _ (by assumption)).mono ?_); rintro e w8 ⟨rfl, hb8⟩)
          | (go_at_call 62; (with_reducible refine (K5.out _ (by assumption)).mono ?_); rintro e w9 ⟨rfl, hb9⟩)
          | (go_at_call 63; (with_reducible refine (K6.out _ (by assumption)).mono ?_); rintro e w10 ⟨rfl, hb10⟩))
      all_goals
        go_wp2_with fail
        go_ret
        exact ⟨rfl, HB.out.trans (hb10.mono HB.out.size)⟩
end Go.Proofs.Ytkcmacglomdfcaa
