/-
  THE WALK of the law ProofBegins.
-/
import Derived.Test.YtkcmacglomdfcaaPhB
import Derived.Test.YtkcmacglomdfcaaPgA
namespace Go.Proofs.Ytkcmacglomdfcaa
open Go.RowKit

set_option maxRecDepth 100000 in
set_option maxHeartbeats 4000000 in
theorem proofBegins_law (w : World) (v : Value) (ls : List Dg) (hv : SS w v ls) (i : Int) (hi : (Lit.int .i64 i).wf = true) : Calls Try.prog 21 #[v, .int .i64 i] w fun e w' => e = .returned (.bool true) ∧ Below w.heap.size w w' := by
  obtain ⟨A, n, c, rfl, hnc, hcm, hr⟩ := hv
  obtain ⟨hi0, hi1⟩ := bounds_i64 hi
  have hcm' := hcm
  unfold maxLen at hcm
  have hA := alive10_any
  have hP := begins_any dig
  have hRP := refbegins_any dig
  have hRR := refroot_any dig
  have hEx := extends_yes dig
  have hBB := begins_both (F := digest32 K32 H32)
  have hpl := proveF_len (F := digest32 K32 H32)
  have hp32 := proveF_32 dig.len
  have hr32 := rootF_len dig.len
  generalize digest32 K32 H32 = F at hP hRP hRR hEx hBB hpl hp32 hr32
  have HA := Lib.hid hA
  clear hA
  by_cases hbig : 100 < n
  · have db : decide ((100 : Int) < (n : Int)) = true := decide_eq_true (by omega)
    clear hP hRP hRR hEx hBB hpl hp32 hr32 hr
    go_enter Try.func21, Try.ntmps21
    go_wp2_with (go_at_call 58; refine (HA.out _).mono ?_; rintro e w1 ⟨rfl, hb1⟩)
    go_ret
    exact ⟨rfl, hb1⟩
  · have db : decide ((100 : Int) < (n : Int)) = false := decide_eq_false (by omega)
    have hl32 := hr.2.1
    have hlen := hr.len
    have hfl := flat_len ls hl32
    have Hlen := Lib.hid hlen
    have Hfl := Lib.hid hfl
    have Hl32 := Lib.hid hl32
    by_cases hin : i < 1 ∨ (n : Int) < i
    · have hbad := fun w A c => begins_bad w A n c i (by omega)
      have Hbad := Lib.hid hbad
      have his := fun w => is_err w 2 2 (by decide)
      have His := Lib.hid his
      have Hin := Lib.hid hin
      clear hP hRP hRR hEx hBB hpl hp32 hr32 hlen hfl hl32 hbad his hin
      rcases Hin.out with hlt | hge
      · have d1 : decide (i < 1) = true := decide_eq_true hlt
        go_enter Try.func21, Try.ntmps21
        go_wp2_with (first
          | (go_at_call 58; refine (HA.out _).mono ?_; rintro e w1 ⟨rfl, hb1⟩)
          | (at_builtin; refine wpList_append_row rfl (.tmp 15) (.tmp 16) 42 rfl w1 ((Below.refl _ _).alloc (Nat.le_refl _) _) Try.underlying42 info_sum3 rfl (by decide) (.slice (some ⟨w1.heap.size, 0, none⟩) 0 0) 0 [] rfl (ownsRow_empty w1 _ _ (Nat.le_refl _)) A n c (ls.flatten.map B8) rfl ((hr.below hb1).below ((Below.refl _ _).alloc (Nat.le_refl _) _)).rc (by rw [List.length_map, Hfl.out, Hlen.out]) (b8_oneCell _) (by unfold maxLen; omega) (by omega) ?_; intro v3 w3 hown3 hb3; rw [Nat.zero_add, List.nil_append] at hown3; obtain ⟨A3, c3, rfl, hc3, hc3m, -⟩ := own_formK hown3; clear hown3)
          | (go_at_call 72; refine (Hbad.out _ _ _).mono ?_; rintro e w4 ⟨rfl, rfl⟩)
          | (go_at_call 46; refine (His.out _).mono ?_; rintro e w5 ⟨rfl, rfl⟩))
        go_ret
        exact ⟨rfl, hb1.trans (hb3.mono hb1.size)⟩
      · have d1 : decide (i < 1) = false := decide_eq_false (by omega)
        have d2 : decide ((n : Int) < i) = true := decide_eq_true hge
        go_enter Try.func21, Try.ntmps21
        go_wp2_with (first
          | (go_at_call 58; refine (HA.out _).mono ?_; rintro e w1 ⟨rfl, hb1⟩)
          | (at_builtin; refine wpList_append_row rfl (.tmp 15) (.tmp 16) 42 rfl w1 ((Below.refl _ _).alloc (Nat.le_refl _) _) Try.underlying42 info_sum3 rfl (by decide) (.slice (some ⟨w1.heap.size, 0, none⟩) 0 0) 0 [] rfl (ownsRow_empty w1 _ _ (Nat.le_refl _)) A n c (ls.flatten.map B8) rfl ((hr.below hb1).below ((Below.refl _ _).alloc (Nat.le_refl _) _)).rc (by rw [List.length_map, Hfl.out, Hlen.out]) (b8_oneCell _) (by unfold maxLen; omega) (by omega) ?_; intro v3 w3 hown3 hb3; rw [Nat.zero_add, List.nil_append] at hown3; obtain ⟨A3, c3, rfl, hc3, hc3m, -⟩ := own_formK hown3; clear hown3)
          | (go_at_call 72; refine (Hbad.out _ _ _).mono ?_; rintro e w4 ⟨rfl, rfl⟩)
          | (go_at_call 46; refine (His.out _).mono ?_; rintro e w5 ⟨rfl, rfl⟩))
        go_ret
        exact ⟨rfl, hb1.trans (hb3.mono hb1.size)⟩
    · obtain ⟨k, rfl⟩ : ∃ k : Nat, i = (k : Int) := ⟨i.toNat, by omega⟩
      have hk0 : 1 ≤ k := by omega
      have hk : k ≤ n := by omega
      have d1 : decide ((k : Int) < 1) = false := decide_eq_false (by omega)
      have d2 : decide (n < k) = false := decide_eq_false (by omega)
      obtain ⟨b, o, hAb, -⟩ := hr.2.2 (by omega)
      subst hAb
      obtain ⟨P, hPe⟩ : ∃ P, P = proveF F ls k true := ⟨_, rfl⟩
      obtain ⟨R, hRe⟩ : ∃ R, R = rootF F ls := ⟨_, rfl⟩
      obtain ⟨R2, hRe2⟩ : ∃ R, R = rootF F (ls.take k) := ⟨_, rfl⟩
      obtain ⟨m, hme⟩ : ∃ m, m = P.length := ⟨_, rfl⟩
      have hP32 := hp32 n ls k true hlen hk0 hk hl32
      have hR32 := hr32 n ls hlen hl32
      have hlt : (ls.take k).length = k := by rw [List.length_take, hlen]; omega
      have hR232 := hr32 k (ls.take k) hlt (fun x hx => hl32 x (List.mem_of_mem_take hx))
      have hml : m = needsF k n true := by rw [hme, hPe]; exact hpl n ls k true hlen hk0 hk
      have hmn : m ≤ n + 1 := by rw [hml]; exact needsF_le k n true hk0
      have hboth : bothF F k n true R2 P = (R2, R) := by rw [hPe, hRe, hRe2]; exact hBB n ls k true _ hlen hk0 hk (fun _ => rfl)
      rw [← hPe] at hP32
      rw [← hRe] at hR32
      rw [← hRe2] at hR232
      have HPth : Hid (∀ u A3 c3, RS u A3 n ls → n ≤ c3 → c3 ≤ maxLen → Calls Try.prog 72 #[.slice A3 n c3, .int .i64 (k : Int)] u fun e w' => ∃ A c, e = .returned (.tuple #[.slice A m c, .nilIface]) ∧ m ≤ c ∧ RS w' A m P ∧ Below u.heap.size u w') := Lib.hid fun u A3 c3 h1 h2 h3 => by
        have h := hP u A3 n c3 ls h1 h2 h3 (by omega) k hk0 hk
        rw [← hPe] at h
        unfold PathPost at h
        rw [← hme] at h
        exact h
      have HRp : Hid (∀ u, RS u (some ⟨b, o, none⟩) n ls → Calls Try.prog 73 #[.slice (some ⟨b, o, none⟩) n c, .int .i64 (k : Int)] u fun e w' => ∃ A c, e = .returned (.slice A m c) ∧ RS w' A m P ∧ Below u.heap.size u w') := Lib.hid fun u h1 => by
        refine (hRP u (some ⟨b, o, none⟩) n c ls k h1 hnc hcm' (by omega) hk0 hk).mono ?_
        rintro e w' ⟨A, c, he, ho, hb⟩
        rw [← hPe] at he ho
        have hrs := RowPost.rs ho hP32
        rw [← hme] at he hrs
        exact ⟨A, c, he, hrs, hb⟩
      have HR1 : Hid (∀ u, RS u (some ⟨b, o, none⟩) n ls → Calls Try.prog 39 #[.slice (some ⟨b, o, none⟩) n c] u fun e w' => e = .returned (.agg (R.map B8).toArray) ∧ Below u.heap.size u w') := Lib.hid fun u h1 => by
        have h := hRR n n (Nat.le_refl _) u (some ⟨b, o, none⟩) c ls h1 hnc hcm' (by omega)
        rw [← hRe] at h
        exact h
      have HR2 : Hid (∀ u, RS u (some ⟨b, o, none⟩) n ls → Calls Try.prog 39 #[.slice (some ⟨b, o, none⟩) k c] u fun e w' => e = .returned (.agg (R2.map B8).toArray) ∧ Below u.heap.size u w') := Lib.hid fun u h1 => by
        have h := hRR k k (Nat.le_refl _) u (some ⟨b, o, none⟩) c (ls.take k) (h1.take hk) (by omega) hcm' (by omega)
        rw [← hRe2] at h
        exact h
      have HEx : Hid (∀ u A4 c4, RS u A4 m P → m ≤ c4 → Calls Try.prog 66 #[.int .i64 (k : Int), .int .i64 (n : Int), .agg (R2.map B8).toArray, .agg (R.map B8).toArray, .slice A4 m c4] u fun e w' => e = .returned (.bool true) ∧ Below u.heap.size u w') := Lib.hid fun u A4 c4 h1 h2 => by
        have h := hEx u k n hk0 hk (by omega) R2 R hR232 hR32 A4 m c4 P h1 h2 hml
        rw [hboth] at h
        simp only [beq_self_eq_true, Bool.and_self] at h
        exact h
      have HS1 : Hid (∀ u A4 c4 A5 c5, RS u A4 m P → RS u A5 m P → Calls Try.prog 60 #[.slice A4 m c4, .slice A5 m c5] u fun e w' => e = .returned (.bool true) ∧ Below u.heap.size u w') := Lib.hid fun u A4 c4 A5 c5 h1 h2 => by
        have h := same_any u A4 A5 m m c4 c5 P P h1 h2 (by unfold maxLen; omega)
        rw [beq_self_eq_true] at h
        exact h
      have HS2 : Hid (∀ u A3 c3, RS u A3 n ls → RS u (some ⟨b, o, none⟩) n ls → Calls Try.prog 60 #[.slice A3 n c3, .slice (some ⟨b, o, none⟩) n c] u fun e w' => e = .returned (.bool true) ∧ Below u.heap.size u w') := Lib.hid fun u A3 c3 h1 h2 => by
        have h := same_any u A3 _ n n c3 c ls ls h1 h2 (by unfold maxLen; omega)
        rw [beq_self_eq_true] at h
        exact h
      have q1 : (0 : Int) ≤ (k : Int) := by omega
      have q2 : (k : Int) ≤ (n : Int) := by omega
      have q3 : (k : Int) ≤ (c : Int) := by omega
      have Hrx := Lib.hid hr
      clear hP hRP hRR hEx hBB hpl hp32 hr32 hlen hfl hl32 hPe hRe hRe2 hme hP32 hR32 hR232 hml hboth hlt
      go_enter Try.func21, Try.ntmps21
      go_wp2_with (first
        | (go_at_call 58; refine (HA.out _).mono ?_; rintro e w1 ⟨rfl, hb1⟩)
        | (at_builtin; refine wpList_append_row rfl (.tmp 15) (.tmp 16) 42 rfl w1 ((Below.refl _ _).alloc (Nat.le_refl _) _) Try.underlying42 info_sum3 rfl (by decide) (.slice (some ⟨w1.heap.size, 0, none⟩) 0 0) 0 [] rfl (ownsRow_empty w1 _ _ (Nat.le_refl _)) (some ⟨b, o, none⟩) n c (ls.flatten.map B8) rfl ((hr.below hb1).below ((Below.refl _ _).alloc (Nat.le_refl _) _)).rc (by rw [List.length_map, Hfl.out, Hlen.out]) (b8_oneCell _) (by unfold maxLen; omega) (by omega) ?_; intro v3 w3 hown3 hb3; rw [Nat.zero_add, List.nil_append] at hown3; have H3 := Lib.hid (And.intro (SS.of_own hown3 Hl32.out Hlen.out) hb3); obtain ⟨A3, c3, rfl, hc3, hc3m, -⟩ := own_formK hown3; clear hown3 hb3))
      obtain ⟨hs3, hb3⟩ := H3.out
      obtain ⟨A3', n3', c3', e3, -, -, hrs3⟩ := hs3
      cases e3
      have hb03 := hb1.trans (hb3.mono hb1.size)
      refine (HPth.out w3 A3 c3 hrs3 hc3 hc3m).mono ?_
      rintro e w4 ⟨A4, c4, rfl, hmc4, hrs4, hb4⟩
      have hb04 := hb03.trans (hb4.mono hb03.size)
      have up : ∀ {u w' : World}, Below w4.heap.size w4 u → Below u.heap.size u w' → Below w4.heap.size w4 w' := fun hu h => hu.trans (h.mono hu.size)
      have hF : ∀ u, Below w4.heap.size w4 u → RS u A4 m P ∧ RS u A3 n ls ∧ RS u (some ⟨b, o, none⟩) n ls := fun u hu =>
        ⟨hrs4.below hu, (hrs3.below hb4).below hu, (Hrx.out.below hb04).below hu⟩
      have HF := Lib.hid hF
      have HB := Lib.hid hb04
      have h40 : Below w4.heap.size w4 w4 := Below.refl _ _
      clear hb1 hb3 hb4 hb03 hb04 hrs3 hrs4 H3 hc3 hc3m hF
      go_wp2_with (first
        | (go_at_call 73; refine (HRp.out _ (HF.out _ h40).2.2).mono ?_; rintro e w5 ⟨A5, c5, rfl, hrs5, hb5⟩; have h5 := up h40 hb5; clear hb5))
      refine (HS1.out _ _ _ _ _ (HF.out _ h5).1 hrs5).mono ?_
      rintro e w6 ⟨rfl, hb6⟩
      have h6 := up h5 hb6
      clear hb6 hrs5
      go_wp2_with fail
      refine (HS2.out _ _ _ (HF.out _ h6).2.1 (HF.out _ h6).2.2).mono ?_
      rintro e w7 ⟨rfl, hb7⟩
      have h7 := up h6 hb7
      clear hb7
      go_wp2_with fail
      refine (HR2.out _ (HF.out _ h7).2.2).mono ?_
      rintro e w8 ⟨rfl, hb8⟩
      have h8 := up h7 hb8
      clear hb8
      go_wp2_with fail
      refine (HR1.out _ (HF.out _ h8).2.2).mono ?_
      rintro e w9 ⟨rfl, hb9⟩
      have h9 := up h8 hb9
      clear hb9
      go_wp2_with fail
      refine (HEx.out _ _ _ (HF.out _ h9).1 hmc4).mono ?_
      rintro e w10 ⟨rfl, hb10⟩
      have h10 := up h9 hb10
      clear hb10
      go_wp2_with fail
      go_ret
      exact ⟨rfl, HB.out.trans (h10.mono HB.out.size)⟩
end Go.Proofs.Ytkcmacglomdfcaa
