/-
  THE WALKS of the document's prove, Begins and Needs.
-/
import Derived.Test.YtkcmacglomdfcaaPfC
namespace Go.Proofs.Ytkcmacglomdfcaa
open Go.RowKit

section
variable {F : List UInt8 → List UInt8} (HF : Dig F)
include HF
set_option maxRecDepth 100000 in
set_option maxHeartbeats 4000000 in
theorem refprove_any : ∀ (f n : Nat), n ≤ f → ∀ (w : World) (A : Option Addr) (c : Nat) (ls : List Dg) (i : Nat) (al : Bool), RS w A n ls → n ≤ c → c ≤ maxLen → n ≤ 1000000 → 1 ≤ i → i ≤ n →
    Calls Try.prog 97 #[.slice A n c, .int .i64 (i : Int), .bool al] w (RowPost w (proveF F ls i al)) := by
  intro f
  induction f with
  | zero => intro n hf w A c ls i al hr hc hm hn h0 hi; omega
  | succ f ih =>
    intro n hf w A c ls i al hr hc hm hn h0 hi
    have hlen := hr.len
    have hm' := hm
    unfold maxLen at hm
    by_cases h1 : i = n
    · subst h1
      rw [proveF_end al h0 hlen]
      have d1 : ((i : Int) == (i : Int)) = true := by simp
      cases al with
      | true =>
        simp only [if_true]
        clear hr ih hlen hf
        go_enter Try.func97, Try.ntmps97
        go_wp2
        go_ret
        exact ⟨none, 0, rfl, World.ownsRow_nil _ _ _ _, Below.refl _ _⟩
      | false =>
        simp only [Bool.false_eq_true, if_false]
        obtain ⟨d, hd⟩ : ∃ d, d = rootF F ls := ⟨_, rfl⟩
        have hd32 : d.length = 32 := by rw [hd]; exact rootF_len HF.len _ _ rfl hr.2.1
        have hR := refroot_any HF i i (Nat.le_refl _) w A c ls hr hc hm' (by omega)
        rw [← hd] at hR ⊢
        unfold SumV at hR
        have HR := Lib.hid hR
        have hml : (d.map B8).length = 32 := by rw [List.length_map, hd32]
        clear hr ih hlen hf hR hd
        go_enter Try.func97, Try.ntmps97
        go_wp2_with fail
        refine HR.out.mono ?_
        rintro e w3 ⟨rfl, hb3⟩
        go_wp2_with fail
        go_ret
        refine ⟨some ⟨w3.heap.size, 0, none⟩, 1, rfl, ?_, hb3.alloc hb3.size _⟩
        refine ⟨by simp [hd32], .inr ⟨w3.heap.size, 1, _, rfl, hb3.size, heap_alloc_new _ _, Nat.le_refl _, by unfold maxLen; omega, by simp [hd32], by simp [List.take_of_length_le, hd32]⟩⟩
    · have h2 : 2 ≤ ls.length := by omega
      have hk1 := cutN_lt h2
      have hk2 := cutN_pos h2
      obtain ⟨k, hk⟩ : ∃ k, k = cutN ls.length := ⟨_, rfl⟩
      have hcut : cutN n = k := by rw [hk, hlen]
      rw [← hk] at hk1 hk2
      obtain ⟨b, o, hA, -⟩ := hr.2.2 (by omega)
      subst hA
      have hcutc := fun w => refcut_any w (n : Int) (by omega) (by omega)
      rw [Int.toNat_natCast, hcut] at hcutc
      have Hcut := Lib.hid hcutc
      have Hk := Lib.hid hk
      have Hr := Lib.hid hr
      have HI := Lib.hid ih
      have hroot := refroot_any HF
      have HR := Lib.hid hroot
      have hlt := take_cut_len h2
      have hld : (ls.drop k).length = n - k := by rw [List.length_drop, hlen]
      rw [← hk] at hlt
      have b1 : k < n := by omega
      have b3 : (0 : Int) ≤ (k : Int) := by omega
      have b4 : (k : Int) ≤ (n : Int) := by omega
      have b5 : (n : Int) ≤ (c : Int) := by omega
      have b6 : (k : Int) ≤ (c : Int) := by omega
      have b7 : ¬ c = k := by omega
      have d1 : ((i : Int) == (n : Int)) = false := by simp; omega
      have hcut2 : ∀ u, Below w.heap.size w u → RS u (some ⟨b, o + k * 32, none⟩) (n - k) (ls.drop k) := fun u hu => by
        have hcut := (hr.below hu).cut (k := k) (cap := c) (by omega) hc
        rw [if_neg (by omega), Option.map_some, Addr.add_mid] at hcut
        exact hcut
      have hcut1 : ∀ u, Below w.heap.size w u → RS u (some ⟨b, o, none⟩) k (ls.take k) := fun u hu => (hr.below hu).take (by omega)
      have HC1 := Lib.hid hcut1
      have HC2 := Lib.hid hcut2
      have h32t : ∀ x ∈ ls.take k, x.length = 32 := fun x hx => hr.2.1 x (List.mem_of_mem_take hx)
      have h32d : ∀ x ∈ ls.drop k, x.length = 32 := fun x hx => hr.2.1 x (List.mem_of_mem_drop hx)
      by_cases hik : i ≤ k
      · have dk : decide (i ≤ k) = true := decide_eq_true hik
        have hps := proveF_left (F := F) (l := ls) (m := i) al h0 (by omega) (by rw [← hk]; exact hik)
        rw [← hk] at hps
        have hql := proveF_len (F := F) k (ls.take k) i al hlt h0 hik
        have hq1 := needsF_le i k al h0
        have hq32 := proveF_32 HF.len k (ls.take k) i al hlt h0 hik h32t
        obtain ⟨d, hd⟩ : ∃ d, d = rootF F (ls.drop k) := ⟨_, rfl⟩
        have hd32 : d.length = 32 := by rw [hd]; exact rootF_len HF.len _ _ rfl h32d
        have hml : (d.map B8).length = 32 := by rw [List.length_map, hd32]
        obtain ⟨q, hq⟩ : ∃ q, q = proveF F (ls.take k) i al := ⟨_, rfl⟩
        obtain ⟨m, hm0⟩ : ∃ m, m = q.length := ⟨_, rfl⟩
        have hmk : m ≤ k + 1 := by rw [hm0, hq, hql]; exact hq1
        rw [← hq, ← hd] at hps
        have HP : Hid (∀ u, Below w.heap.size w u → Calls Try.prog 97 #[.slice (some ⟨b, o, none⟩) k c, .int .i64 (i : Int), .bool al] u fun e w' => ∃ A c, e = .returned (.slice A m c) ∧ w'.ownsRow w.heap.size 26 32 (.slice A m c) m (q.flatten.map B8) ∧ Below w.heap.size w w') := Lib.hid fun u hu => by
          refine (HI.out k (by omega) u (some ⟨b, o, none⟩) c (ls.take k) i al (HC1.out u hu) (by omega) hm' (by omega) h0 hik).mono ?_
          rintro e w' ⟨A, c, he, hown, hb⟩
          rw [← hq, ← hm0] at he hown
          exact ⟨A, c, he, ownsRow_base hown hu.size, hu.trans (hb.mono hu.size)⟩
        have HQ : Hid (∀ u, Below w.heap.size w u → Calls Try.prog 39 #[.slice (some ⟨b, o + k * 32, none⟩) (n - k) (c - k)] u fun e w' => e = .returned (.agg (d.map B8).toArray) ∧ Below w.heap.size w w' ∧ Below u.heap.size u w') := Lib.hid fun u hu => by
          have h := HR.out (n - k) (n - k) (Nat.le_refl _) u (some ⟨b, o + k * 32, none⟩) (c - k) (ls.drop k) (HC2.out u hu) (by omega) (by omega) (by omega)
          rw [← hd] at h
          exact h.mono fun e w' ⟨h1, h2⟩ => ⟨h1, hu.trans (h2.mono hu.size), h2⟩
        have Hps := Lib.hid hps
        have Hm0 := Lib.hid hm0
        have HSd : Hid (Below w.heap.size w w.drew) := Lib.hid (below_drewN (Below.refl _ _) 1)
        obtain ⟨xs, hxs⟩ : ∃ xs, xs = q.flatten.map B8 := ⟨_, rfl⟩
        rw [← hxs] at HP
        have Hxs := Lib.hid hxs
        clear hr ih hroot hlen hcutc hk hcut hcut1 hcut2 h32t h32d hps hql hq1 hq32 hd hq hm0 hlt hld h2 hk1 hxs h1
        go_enter Try.func97, Try.ntmps97
        go_wp2_with (go_at_call 37; refine (Hcut.out _).mono ?_; rintro e w' ⟨rfl, rfl⟩)
        go_region_held3 (fun w' => Below w.heap.size w w')
          (first | exact HSd.out | assumption | exact Below.alloc (by assumption) (Below.size (by assumption)) _)
          (first
            | (go_at_call 97; refine (HP.out _ (by assumption)).mono ?_; rintro e wp ⟨Ap, cp, rfl, hown, hbp⟩)
            | (go_at_call 39; refine (HQ.out _ (by assumption)).mono ?_; rintro e wq ⟨rfl, hbq, hbq2⟩)
            | (refine step_append_row rfl (.tmp 28) (.tmp 33) 42 rfl w (by assumption) Try.underlying42 info_sum3 rfl (by decide) (.slice Ap m cp) m xs rfl ((ownsRow_below hown hbq2).alloc _) (some ⟨wq.heap.size, 0, none⟩) 1 1 (d.map B8) rfl (rc_new wq _ _ _) (by rw [hml]) (b8_oneCell d) (by unfold maxLen; omega) (by omega) ?_; intro v8 w8 hown8 hb8)
            | (refine step_append_row rfl (.tmp 28) (.tmp 33) 42 rfl w (by assumption) Try.underlying42 info_sum3 rfl (by decide) (.slice Ap m cp) m xs rfl (hown.alloc _) (some ⟨wp.heap.size, 0, none⟩) 1 1 (d.map B8) rfl (rc_new wp _ _ _) (by rw [hml]) (b8_oneCell d) (by unfold maxLen; omega) (by omega) ?_; intro v8 w8 hown8 hb8))
        all_goals
          obtain ⟨A8, c8, rfl, -, -, -⟩ := own_formK hown8
          go_wp2_with fail
          go_ret
          have e1 : (proveF F ls i al).length = m + 1 := by rw [Hps.out, List.length_append, Hm0.out]; rfl
          refine ⟨A8, c8, by rw [e1]; rfl, ?_, hb8⟩
          rw [e1, Hps.out, List.flatten_append, List.map_append, ← Hxs.out]
          simpa using hown8
      · have dk : decide (i ≤ k) = false := decide_eq_false hik
        obtain ⟨i2, hi2⟩ : ∃ i2, i2 = i - k := ⟨_, rfl⟩
        have ei : (i : Int) - (k : Int) = (i2 : Int) := by omega
        have bi : (k : Int) ≤ (i : Int) := by omega
        have hi2n : i2 ≤ n - k := by omega
        have hi20 : 1 ≤ i2 := by omega
        have wi : IntKind.i64.wrap ((i : Int) - (k : Int)) = (i2 : Int) := by rw [ei, IntWalk.i64_in _ ⟨by omega, by omega⟩]
        have hps := proveF_right (F := F) (l := ls) (m := i) al h0 (by omega) (by rw [← hk]; exact hik)
        rw [← hk, ← hi2] at hps
        have hql := proveF_len (F := F) (n - k) (ls.drop k) i2 false hld hi20 hi2n
        have hq1 := needsF_le i2 (n - k) false hi20
        have hq32 := proveF_32 HF.len (n - k) (ls.drop k) i2 false hld hi20 hi2n h32d
        obtain ⟨d, hd⟩ : ∃ d, d = rootF F (ls.take k) := ⟨_, rfl⟩
        have hd32 : d.length = 32 := by rw [hd]; exact rootF_len HF.len _ _ rfl h32t
        have hml : (d.map B8).length = 32 := by rw [List.length_map, hd32]
        obtain ⟨q, hq⟩ : ∃ q, q = proveF F (ls.drop k) i2 false := ⟨_, rfl⟩
        obtain ⟨m, hm0⟩ : ∃ m, m = q.length := ⟨_, rfl⟩
        have hmk : m ≤ n - k + 1 := by rw [hm0, hq, hql]; exact hq1
        rw [← hq, ← hd] at hps
        have HP : Hid (∀ u, Below w.heap.size w u → Calls Try.prog 97 #[.slice (some ⟨b, o + k * 32, none⟩) (n - k) (c - k), .int .i64 (i2 : Int), .bool false] u fun e w' => ∃ A c, e = .returned (.slice A m c) ∧ w'.ownsRow w.heap.size 26 32 (.slice A m c) m (q.flatten.map B8) ∧ Below w.heap.size w w') := Lib.hid fun u hu => by
          refine (HI.out (n - k) (by omega) u (some ⟨b, o + k * 32, none⟩) (c - k) (ls.drop k) i2 false (HC2.out u hu) (by omega) (by omega) (by omega) hi20 hi2n).mono ?_
          rintro e w' ⟨A, c, he, hown, hb⟩
          rw [← hq, ← hm0] at he hown
          exact ⟨A, c, he, ownsRow_base hown hu.size, hu.trans (hb.mono hu.size)⟩
        have HQ : Hid (∀ u, Below w.heap.size w u → Calls Try.prog 39 #[.slice (some ⟨b, o, none⟩) k c] u fun e w' => e = .returned (.agg (d.map B8).toArray) ∧ Below w.heap.size w w' ∧ Below u.heap.size u w') := Lib.hid fun u hu => by
          have h := HR.out k k (Nat.le_refl _) u (some ⟨b, o, none⟩) c (ls.take k) (HC1.out u hu) (by omega) hm' (by omega)
          rw [← hd] at h
          exact h.mono fun e w' ⟨h1, h2⟩ => ⟨h1, hu.trans (h2.mono hu.size), h2⟩
        have Hps := Lib.hid hps
        have Hm0 := Lib.hid hm0
        have HSd : Hid (Below w.heap.size w w.drew) := Lib.hid (below_drewN (Below.refl _ _) 1)
        obtain ⟨xs, hxs⟩ : ∃ xs, xs = q.flatten.map B8 := ⟨_, rfl⟩
        rw [← hxs] at HP
        have Hxs := Lib.hid hxs
        clear hr ih hroot hlen hcutc hk hcut hcut1 hcut2 h32t h32d hps hql hq1 hq32 hd hq hm0 hlt hld h2 hk1 hxs h1 hi2 ei
        go_enter Try.func97, Try.ntmps97
        go_wp2_with (go_at_call 37; refine (Hcut.out _).mono ?_; rintro e w' ⟨rfl, rfl⟩)
        go_region_held3 (fun w' => Below w.heap.size w w')
          (first | exact HSd.out | assumption | exact Below.alloc (by assumption) (Below.size (by assumption)) _)
          (first
            | (go_at_call 97; refine (HP.out _ (by assumption)).mono ?_; rintro e wp ⟨Ap, cp, rfl, hown, hbp⟩)
            | (go_at_call 39; refine (HQ.out _ (by assumption)).mono ?_; rintro e wq ⟨rfl, hbq, hbq2⟩)
            | (refine step_append_row rfl (.tmp 41) (.tmp 46) 42 rfl w (by assumption) Try.underlying42 info_sum3 rfl (by decide) (.slice Ap m cp) m xs rfl ((ownsRow_below hown hbq2).alloc _) (some ⟨wq.heap.size, 0, none⟩) 1 1 (d.map B8) rfl (rc_new wq _ _ _) (by rw [hml]) (b8_oneCell d) (by unfold maxLen; omega) (by omega) ?_; intro v8 w8 hown8 hb8)
            | (refine step_append_row rfl (.tmp 41) (.tmp 46) 42 rfl w (by assumption) Try.underlying42 info_sum3 rfl (by decide) (.slice Ap m cp) m xs rfl (hown.alloc _) (some ⟨wp.heap.size, 0, none⟩) 1 1 (d.map B8) rfl (rc_new wp _ _ _) (by rw [hml]) (b8_oneCell d) (by unfold maxLen; omega) (by omega) ?_; intro v8 w8 hown8 hb8))
        all_goals
          obtain ⟨A8, c8, rfl, -, -, -⟩ := own_formK hown8
          go_wp2_with fail
          go_ret
          have e1 : (proveF F ls i al).length = m + 1 := by rw [Hps.out, List.length_append, Hm0.out]; rfl
          refine ⟨A8, c8, by rw [e1]; rfl, ?_, hb8⟩
          rw [e1, Hps.out, List.flatten_append, List.map_append, ← Hxs.out]
          simpa using hown8
theorem refbegins_any (w : World) (A : Option Addr) (n c : Nat) (ls : List Dg) (i : Nat) (hr : RS w A n ls) (hc : n ≤ c) (hcm : c ≤ maxLen) (hn : n ≤ 1000000) (h0 : 1 ≤ i) (hi : i ≤ n) :
    Calls Try.prog 73 #[.slice A n c, .int .i64 (i : Int)] w (RowPost w (proveF F ls i true)) := by
  have h := refprove_any HF n n (Nat.le_refl _) w A c ls i true hr hc hcm hn h0 hi
  have H := Lib.hid h
  clear h hr hc hcm hn h0 hi
  go_enter Try.func73, Try.ntmps73
  go_wp2_with fail
  refine H.out.mono ?_
  rintro e w' ⟨A', c', rfl, h1, h2⟩
  have H2 := Lib.hid (And.intro h1 h2)
  clear h1 h2
  go_wp2_with fail
  go_ret
  exact ⟨A', c', rfl, H2.out.1, H2.out.2⟩
end
theorem refneeds_any : ∀ (f n : Nat), n ≤ f → ∀ (w : World) (i : Nat) (al : Bool), 1 ≤ i → i ≤ n → n ≤ 1048576 →
    Calls Try.prog 95 #[.int .i64 (i : Int), .int .i64 (n : Int), .bool al] w fun e w' => e = .returned (.int .i64 ((needsF i n al : Nat) : Int)) ∧ w = w' := by
  intro f
  induction f with
  | zero => intro n hf w i al h0 hi; omega
  | succ f ih =>
    intro n hf w i al h0 hi hn
    by_cases h1 : i = n
    · subst h1
      rw [needsF_end al (Nat.le_refl _)]
      have d1 : ((i : Int) == (i : Int)) = true := by simp
      clear ih hf
      cases al
      all_goals
        go_enter Try.func95, Try.ntmps95
        go_wp2
        go_ret
        exact ⟨rfl, rfl⟩
    · have hk1 := cutN_lt (n := n) (by omega)
      have hk2 := cutN_pos (n := n) (by omega)
      obtain ⟨k, hk⟩ : ∃ k, k = cutN n := ⟨_, rfl⟩
      have hcutc := fun w => refcut_any w (n : Int) (by omega) (by omega)
      rw [Int.toNat_natCast, ← hk] at hcutc
      rw [← hk] at hk1 hk2
      have Hcut := Lib.hid hcutc
      have d1 : ((i : Int) == (n : Int)) = false := by simp; omega
      by_cases hik : i ≤ k
      · have dk : decide (i ≤ k) = true := decide_eq_true hik
        have hT := needsF_left al h0 (show i < n by omega) (by rw [← hk]; exact hik)
        have hl := needsF_le i k al h0
        rw [← hk] at hT
        obtain ⟨L, hL⟩ : ∃ L, L = needsF i k al := ⟨_, rfl⟩
        have hI := fun w => ih k (by omega) w i al h0 hik (by omega)
        rw [← hL] at hT hl hI
        rw [hT]
        have HI := Lib.hid hI
        clear ih hcutc hk hT hI hL
        go_enter Try.func95, Try.ntmps95
        go_wp2_with (first
          | (go_at_call 37; refine (Hcut.out _).mono ?_; rintro e w' ⟨rfl, rfl⟩)
          | (go_at_call 95; refine (HI.out _).mono ?_; rintro e w' ⟨rfl, rfl⟩))
        go_ret
        exact ⟨by show Ending.returned (.int .i64 (1 + (L : Int))) = _; rw [show ((1 + L : Nat) : Int) = 1 + (L : Int) by omega], rfl⟩
      · have dk : decide (i ≤ k) = false := decide_eq_false hik
        obtain ⟨i2, hi2⟩ : ∃ i2, i2 = i - k := ⟨_, rfl⟩
        obtain ⟨n2, hn2⟩ : ∃ n2, n2 = n - k := ⟨_, rfl⟩
        have hT := needsF_right al h0 (show i < n by omega) (by rw [← hk]; exact hik)
        rw [← hk, ← hi2, ← hn2] at hT
        have hl := needsF_le i2 n2 false (by omega)
        obtain ⟨L, hL⟩ : ∃ L, L = needsF i2 n2 false := ⟨_, rfl⟩
        have hI := fun w => ih n2 (by omega) w i2 false (by omega) (by omega) (by omega)
        rw [← hL] at hT hl hI
        rw [hT]
        have HI := Lib.hid hI
        have e1 : (i : Int) - (k : Int) = (i2 : Int) := by omega
        have e2 : (n : Int) - (k : Int) = (n2 : Int) := by omega
        have g1 : (k : Int) ≤ (i : Int) := by omega
        have g2 : (k : Int) ≤ (n : Int) := by omega
        have b2 : n2 ≤ 1048576 := by omega
        clear ih hcutc hk hT hI hL hi2 hn2
        go_enter Try.func95, Try.ntmps95
        go_wp2_with (first
          | (go_at_call 37; refine (Hcut.out _).mono ?_; rintro e w' ⟨rfl, rfl⟩)
          | (go_at_call 95; refine (HI.out _).mono ?_; rintro e w' ⟨rfl, rfl⟩))
        go_ret
        exact ⟨by show Ending.returned (.int .i64 (1 + (L : Int))) = _; rw [show ((1 + L : Nat) : Int) = 1 + (L : Int) by omega], rfl⟩
end Go.Proofs.Ytkcmacglomdfcaa
