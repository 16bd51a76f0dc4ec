/-
  THE WALKS of proof.Begins and steps.
-/
import Derived.Test.YtkcmacglomdfcaaPfB
import Derived.Test.YtkcmacglomdfcaaPfE
namespace Go.Proofs.Ytkcmacglomdfcaa
open Go.RowKit

/-- slices.Reverse at a row of digests of the call's own, empty or not. -/
theorem rev_all (W wr : World) (A : Option Addr) (m c : Nat) (outl : List Dg) (hown : wr.ownsRow W.heap.size 26 32 (.slice A m c) m (outl.flatten.map B8)) (h32 : ∀ x ∈ outl, x.length = 32) (hl : outl.length = m) (hm : m ≤ 1048576) (hb : Below W.heap.size W wr) :
    Calls Try.prog 89 #[.slice A m c] wr fun e w' => e = .returned (.tuple #[]) ∧ m ≤ c ∧ RS w' A m outl.reverse ∧ Below W.heap.size W w' := by
  obtain ⟨A0, c0, e0, hmc, -, hg0⟩ := own_formK hown
  cases e0
  by_cases hm0 : m = 0
  · subst hm0
    have hol : outl = [] := List.eq_nil_of_length_eq_zero hl
    refine (rev_none wr A c).mono ?_
    rintro e w' ⟨he, rfl⟩
    exact ⟨he, hmc, by rw [hol]; exact RS.nil _ _, hb⟩
  · obtain ⟨g, rfl, -, -, -⟩ := hg0 (by omega)
    refine (rev_sum wr W.heap.size g m c outl hown h32 hl hm).mono ?_
    rintro e w' ⟨he, h1, h2⟩
    exact ⟨he, hmc, h1, h2 _ hb⟩
theorem begins_bad (w : World) (A : Option Addr) (n c : Nat) (i : Int) (h : i < 1 ∨ n < i) :
    Calls Try.prog 72 #[.slice A n c, .int .i64 i] w fun e w' => e = .returned (.tuple #[.slice none 0 0, .iface 58 (.int .i64 2)]) ∧ w = w' := by
  by_cases h1 : i < 1
  · have d1 : decide (i < 1) = true := decide_eq_true h1
    go_enter Try.func72, Try.ntmps72
    go_wp2
    go_ret2
    exact ⟨rfl, rfl⟩
  · have d1 : decide (i < 1) = false := decide_eq_false h1
    have d2 : decide ((n : Int) < i) = true := decide_eq_true (by omega)
    clear h h1
    go_enter Try.func72, Try.ntmps72
    go_wp2
    go_ret2
    exact ⟨rfl, rfl⟩
section
variable {F : List UInt8 → List UInt8} (HF : Dig F)
include HF
set_option maxRecDepth 100000 in
set_option maxHeartbeats 2000000 in
theorem begins_any (w : World) (A : Option Addr) (n c : Nat) (ls : List Dg) (hr : RS w A n ls) (hnc : n ≤ c) (hcm : c ≤ maxLen) (hn : n ≤ 1048576) (i : Nat) (hi0 : 1 ≤ i) (hi : i ≤ n) :
    Calls Try.prog 72 #[.slice A n c, .int .i64 (i : Int)] w (PathPost w (proveF F ls i true)) := by
  have hP := root_any HF
  have hFl := fun l => rootF_len HF.len _ l rfl
  have h32 := proveF_32 HF.len _ ls i true rfl hi0 (by rw [hr.len]; exact hi) hr.2.1
  unfold maxLen at hcm
  obtain ⟨b, o, hA, -⟩ := hr.2.2 (by omega)
  subst hA
  have HP := Lib.hid hP
  have HFl := Lib.hid hFl
  have H32 := Lib.hid h32
  have d1 : decide ((i : Int) < 1) = false := decide_eq_false (by omega)
  have d2 : decide (n < i) = false := decide_eq_false (by omega)
  clear hP hFl h32
  go_enter Try.func72, Try.ntmps72
  go_wp2_with fail
  go_loopw [0, 1, 6, 7] (fun s0 s1 s6 s7 wr => ∃ (o' n' c' i' m : Nat) (al : Bool) (l' outl : List Dg) (Av : Option Addr) (cv : Nat), s0 = .slice (some ⟨b, o', none⟩) n' c' ∧ s1 = .int .i64 (i' : Int) ∧ s6 = .slice Av m cv ∧ s7 = .bool al ∧ 1 ≤ i' ∧ i' ≤ n' ∧ n' ≤ c' ∧ c' ≤ c ∧ m + n' ≤ n ∧
      Hid (RS w (some ⟨b, o', none⟩) n' l' ∧ proveF F ls i true = proveF F l' i' al ++ outl.reverse ∧ outl.length = m ∧ (∀ x ∈ outl, x.length = 32) ∧ wr.ownsRow w.heap.size 26 32 (.slice Av m cv) m (outl.flatten.map B8) ∧ Below w.heap.size w wr)) (fun s0 _ _ _ _ => lenW s0)
  case atStart => exact ⟨o, n, c, i, 0, true, ls, [], none, 0, rfl, rfl, rfl, rfl, hi0, hi, hnc, Nat.le_refl _, by omega, Lib.hid ⟨hr, by simp, rfl, fun x hx => by simp at hx, World.ownsRow_nil _ _ _ _, Below.refl _ _⟩⟩
  case round =>
    obtain ⟨o', n', c', i', m, al, l', outl, Av, cv, rfl, rfl, rfl, rfl, hi0, hi', hnc', hcc, hmn, hq⟩ := hrel
    by_cases h1 : n' ≤ i'
    · obtain rfl : i' = n' := by omega
      obtain ⟨q1, q2, q3, q4, q5, q6⟩ := hq.out
      have hll := q1.len
      rw [proveF_end al hi0 hll] at q2
      have dn : decide (i' < i') = false := decide_eq_false (by omega)
      cases al with
      | true =>
        simp only [if_true, List.nil_append] at q2
        have hps : (proveF F ls i true).length = m := by rw [q2, List.length_reverse, q3]
        have hrv := rev_all w wr Av m cv outl q5 q4 q3 (by omega) q6
        rw [← q2] at hrv
        have Hrv := Lib.hid hrv
        have Hps := Lib.hid hps
        clear hq q1 q2 q3 q4 q5 q6 hll hrv hps H32
        go_wp2_with fail
        refine Hrv.out.mono ?_
        rintro e w9 ⟨rfl, hmc, hr9, hb9⟩
        have H9 := Lib.hid (And.intro hmc (And.intro hr9 hb9))
        clear hmc hr9 hb9
        go_wp2_with fail
        go_ret2
        exact ⟨Av, cv, by rw [Hps.out]; rfl, by rw [Hps.out]; exact H9.out.1, by rw [Hps.out]; exact H9.out.2.1, H9.out.2.2⟩
      | false =>
        simp only [Bool.false_eq_true, if_false] at q2
        obtain ⟨d, hd⟩ : ∃ d, d = rootF F l' := ⟨_, rfl⟩
        have hd32 : d.length = 32 := by rw [hd]; exact HFl.out _ q1.2.1
        have hml : (d.map B8).length = 32 := by rw [List.length_map, hd32]
        have hC := HP.out wr (some ⟨b, o', none⟩) i' c' l' (q1.below q6) (by omega)
        rw [← hd] at hC q2
        unfold SumV at hC
        obtain ⟨xs, hxs⟩ : ∃ xs, xs = outl.flatten.map B8 := ⟨_, rfl⟩
        rw [← hxs] at q5
        have HC := Lib.hid hC
        have HQ := Lib.hid (And.intro q2 (And.intro q3 (And.intro q4 (And.intro q5 (And.intro q6 hxs)))))
        clear hq q1 q2 q3 q4 q5 q6 hll hd hC hxs
        go_wp2_with fail
        refine HC.out.mono ?_
        rintro e w3 ⟨rfl, hb3⟩
        have H3 := Lib.hid (And.intro (ownsRow_below HQ.out.2.2.2.1 hb3) (HQ.out.2.2.2.2.1.trans (hb3.mono HQ.out.2.2.2.2.1.size)))
        clear hb3
        go_wp2_with (at_builtin; refine wpList_append_keep rfl (.tmp 53) (.tmp 56) 42 rfl w (H3.out.2.alloc H3.out.2.size _) Try.underlying42 info_sum3 rfl (by decide) (.slice Av m cv) m xs rfl (H3.out.1.alloc _) (some ⟨w3.heap.size, 0, none⟩) 1 1 (d.map B8) rfl (rc_new w3 _ _ _) (by rw [hml]) (b8_oneCell d) (by unfold maxLen; omega) (by omega) ?_; intro v8 w8 hown8 hb8 _ hg8 _; obtain ⟨A8, c8, rfl, -, -, -⟩ := own_formK hown8; have H8 := Lib.hid (And.intro hown8 hb8); clear hown8 hb8 hg8)
        have hrv := rev_all w w8 A8 (m + 1) c8 (outl ++ [d]) (by rw [List.flatten_append, List.map_append, ← HQ.out.2.2.2.2.2]; simpa using H8.out.1) (fun x hx => by
          rcases List.mem_append.1 hx with hx | hx
          · exact HQ.out.2.2.1 x hx
          · simp at hx; subst hx; exact hd32) (by simp [HQ.out.2.1]) (by omega) H8.out.2
        have hq2 : (outl ++ [d]).reverse = proveF F ls i true := by rw [HQ.out.1]; simp
        rw [hq2] at hrv
        have hps : (proveF F ls i true).length = m + 1 := by rw [← hq2]; simp [HQ.out.2.1]
        have Hrv := Lib.hid hrv
        have Hps := Lib.hid hps
        clear hrv hps hq2 H32 HQ
        refine Hrv.out.mono ?_
        rintro e w9 ⟨rfl, hmc, hr9, hb9⟩
        have H9 := Lib.hid (And.intro hmc (And.intro hr9 hb9))
        clear hmc hr9 hb9
        go_wp2_with fail
        go_ret2
        exact ⟨A8, c8, by rw [Hps.out]; rfl, by rw [Hps.out]; exact H9.out.1, by rw [Hps.out]; exact H9.out.2.1, H9.out.2.2⟩
    · have h2 : 2 ≤ l'.length := by have := hq.out.1.len; omega
      have hl' := hq.out.1.len
      have hk1 := cutN_lt h2
      have hk2 := cutN_pos h2
      obtain ⟨k, hk⟩ : ∃ k, k = cutN l'.length := ⟨_, rfl⟩
      have hcut : cutN n' = k := by rw [hk, hl']
      rw [← hk] at hk1 hk2
      have hcutc := fun w => cut_any w (n' : Int) (by omega) (by omega)
      rw [Int.toNat_natCast, hcut] at hcutc
      have Hcut := Lib.hid hcutc
      have Hk := Lib.hid hk
      have Hl' := Lib.hid hl'
      have b1 : k < n' := by omega
      have b2 : k ≤ c' := by omega
      have dn : decide (i' < n') = true := decide_eq_true (by omega)
      have b3 : (0 : Int) ≤ (k : Int) := by omega
      have b4 : (k : Int) ≤ (n' : Int) := by omega
      have b5 : (n' : Int) ≤ (c' : Int) := by omega
      have b6 : (k : Int) ≤ (c' : Int) := by omega
      have b7 : ¬ c' = k := by omega
      clear hcutc hk hl' hcut hk1 h2
      by_cases hik : i' ≤ k
      · have dk : decide (i' ≤ k) = true := decide_eq_true (by omega)
        obtain ⟨d, hd⟩ : ∃ d, d = rootF F (l'.drop k) := ⟨_, rfl⟩
        have hd32 : d.length = 32 := by rw [hd]; exact HFl.out _ (fun x hx => hq.out.1.2.1 x (List.mem_of_mem_drop hx))
        have hml : (d.map B8).length = 32 := by rw [List.length_map, hd32]
        obtain ⟨xs, hxs⟩ : ∃ xs, xs = outl.flatten.map B8 := ⟨_, rfl⟩
        obtain ⟨-, -, hol, ho32, hown, hbw⟩ := hq.out
        rw [← hxs] at hown
        have HC : Hid (∀ u : World, Below w.heap.size w u ∧ u.ownsRow w.heap.size 26 32 (.slice Av m cv) m xs → Calls Try.prog 38 #[.slice (some ⟨b, o' + k * 32, none⟩) (n' - k) (c' - k)] u fun e w' =>
            e = .returned (.agg (d.map B8).toArray) ∧ Below w.heap.size w w' ∧ w'.ownsRow w.heap.size 26 32 (.slice Av m cv) m xs) := Lib.hid fun u hu => by
          have hcut := (hq.out.1.below hu.1).cut (k := k) (cap := c') (by omega) hnc'
          rw [if_neg (by omega), Option.map_some, Addr.add_mid] at hcut
          have h := HP.out u (some ⟨b, o' + k * 32, none⟩) (n' - k) (c' - k) (l'.drop k) hcut (by omega)
          rw [← hd] at h
          exact h.mono fun e w' ⟨h1, h2⟩ => ⟨h1, hu.1.trans (h2.mono hu.1.size), ownsRow_below hu.2 h2⟩
        have HS0 := Lib.hid (And.intro hbw hown)
        have HSd : Hid (Below w.heap.size w wr.drew ∧ wr.drew.ownsRow w.heap.size 26 32 (.slice Av m cv) m xs) := Lib.hid ⟨below_drewN hbw 1, hown.drew⟩
        have HSa : Hid (∀ (u : World) (o : Obj), Below w.heap.size w u ∧ u.ownsRow w.heap.size 26 32 (.slice Av m cv) m xs → Below w.heap.size w (u.alloc o) ∧ (u.alloc o).ownsRow w.heap.size 26 32 (.slice Av m cv) m xs) := Lib.hid fun u o h => ⟨h.1.alloc h.1.size _, h.2.alloc _⟩
        have Hd := Lib.hid hd
        have Hxs := Lib.hid hxs
        clear hol ho32 hown hbw hd hxs
        go_wp2_with (go_at_call 36; refine (Hcut.out _).mono ?_; rintro e w' ⟨rfl, rfl⟩)
        go_region_held3 (fun w' => Below w.heap.size w w' ∧ w'.ownsRow w.heap.size 26 32 (.slice Av m cv) m xs)
          (first | exact HSd.out | assumption | exact HSa.out _ _ (by assumption))
          (first
            | (go_at_call 38; refine (HC.out _ (by assumption)).mono ?_; rintro e w1 ⟨rfl, hs⟩)
            | (refine step_append_keep rfl (.tmp 28) (.tmp 33) 42 rfl w (And.left (by assumption)) Try.underlying42 info_sum3 rfl (by decide) (.slice Av m cv) m xs rfl (And.right (by assumption)) (some ⟨w1.heap.size, 0, none⟩) 1 1 (d.map B8) rfl (rc_new w1 _ _ _) (by rw [hml]) (b8_oneCell d) (by unfold maxLen; omega) (by omega) ?_; intro v8 w8 hown8 hb8 hk8 hg8; have hs8 := And.intro hb8 hk8))
        obtain ⟨A8, c8, rfl, -, -, -⟩ := own_formK hown8
        have hN : RS w (some ⟨b, o', none⟩) k (l'.take k) ∧ proveF F ls i true = proveF F (l'.take k) i' al ++ (outl ++ [d]).reverse ∧ (outl ++ [d]).length = m + 1 ∧ (∀ x ∈ outl ++ [d], x.length = 32) ∧ w8.ownsRow w.heap.size 26 32 (.slice A8 (m + 1) c8) (m + 1) ((outl ++ [d]).flatten.map B8) ∧ Below w.heap.size w w8 := by
          obtain ⟨q1, q2, q3, q4, -, -⟩ := hq.out
          have e := proveF_left (F := F) (l := l') (m := i') al hi0 (by have := Hl'.out; omega) (by rw [← Hk.out]; exact hik)
          rw [← Hk.out, ← Hd.out] at e
          refine ⟨q1.take (by omega), by rw [q2, e]; simp, by simp [q3], fun x hx => ?_, ?_, hb8⟩
          · rcases List.mem_append.1 hx with hx | hx
            · exact q4 x hx
            · simp at hx; subst hx; exact hd32
          · rw [List.flatten_append, List.map_append, ← Hxs.out]
            simpa using hown8
        have HNn := Lib.hid hN
        have bm : m + 1 + k ≤ n := by omega
        clear hN hown8 hb8 hk8 hg8 hs8 hs hq
        go_wp2_with fail
        go_roundw
        case rel => exact ⟨o', k, c', i', m + 1, al, l'.take k, outl ++ [d], A8, c8, rfl, rfl, rfl, rfl, hi0, hik, b2, hcc, bm, HNn⟩
        case measure => show k < n'; exact b1
      · have dk : decide (i' ≤ k) = false := decide_eq_false (by omega)
        have bi : (k : Int) ≤ (i' : Int) := by omega
        obtain ⟨i2, hi2⟩ : ∃ i2, i2 = i' - k := ⟨_, rfl⟩
        have ei : (i' : Int) - (k : Int) = (i2 : Int) := by omega
        have hi2n : i2 ≤ n' - k := by omega
        have hi20 : 1 ≤ i2 := by omega
        have Hi2 := Lib.hid hi2
        clear hi2
        obtain ⟨d, hd⟩ : ∃ d, d = rootF F (l'.take k) := ⟨_, rfl⟩
        have hd32 : d.length = 32 := by rw [hd]; exact HFl.out _ (fun x hx => hq.out.1.2.1 x (List.mem_of_mem_take hx))
        have hml : (d.map B8).length = 32 := by rw [List.length_map, hd32]
        obtain ⟨xs, hxs⟩ : ∃ xs, xs = outl.flatten.map B8 := ⟨_, rfl⟩
        obtain ⟨-, -, hol, ho32, hown, hbw⟩ := hq.out
        rw [← hxs] at hown
        have HC : Hid (∀ u : World, Below w.heap.size w u ∧ u.ownsRow w.heap.size 26 32 (.slice Av m cv) m xs → Calls Try.prog 38 #[.slice (some ⟨b, o', none⟩) k c'] u fun e w' =>
            e = .returned (.agg (d.map B8).toArray) ∧ Below w.heap.size w w' ∧ w'.ownsRow w.heap.size 26 32 (.slice Av m cv) m xs) := Lib.hid fun u hu => by
          have h := HP.out u (some ⟨b, o', none⟩) k c' (l'.take k) ((hq.out.1.below hu.1).take (by omega)) (by omega)
          rw [← hd] at h
          exact h.mono fun e w' ⟨h1, h2⟩ => ⟨h1, hu.1.trans (h2.mono hu.1.size), ownsRow_below hu.2 h2⟩
        have HS0 := Lib.hid (And.intro hbw hown)
        have HSd : Hid (Below w.heap.size w wr.drew ∧ wr.drew.ownsRow w.heap.size 26 32 (.slice Av m cv) m xs) := Lib.hid ⟨below_drewN hbw 1, hown.drew⟩
        have HSa : Hid (∀ (u : World) (o : Obj), Below w.heap.size w u ∧ u.ownsRow w.heap.size 26 32 (.slice Av m cv) m xs → Below w.heap.size w (u.alloc o) ∧ (u.alloc o).ownsRow w.heap.size 26 32 (.slice Av m cv) m xs) := Lib.hid fun u o h => ⟨h.1.alloc h.1.size _, h.2.alloc _⟩
        have Hd := Lib.hid hd
        have Hxs := Lib.hid hxs
        clear hol ho32 hown hbw hd hxs
        go_wp2_with (go_at_call 36; refine (Hcut.out _).mono ?_; rintro e w' ⟨rfl, rfl⟩)
        go_region_held3 (fun w' => Below w.heap.size w w' ∧ w'.ownsRow w.heap.size 26 32 (.slice Av m cv) m xs)
          (first | exact HSd.out | assumption | exact HSa.out _ _ (by assumption))
          (first
            | (go_at_call 38; refine (HC.out _ (by assumption)).mono ?_; rintro e w1 ⟨rfl, hs⟩)
            | (refine step_append_keep rfl (.tmp 38) (.tmp 43) 42 rfl w (And.left (by assumption)) Try.underlying42 info_sum3 rfl (by decide) (.slice Av m cv) m xs rfl (And.right (by assumption)) (some ⟨w1.heap.size, 0, none⟩) 1 1 (d.map B8) rfl (rc_new w1 _ _ _) (by rw [hml]) (b8_oneCell d) (by unfold maxLen; omega) (by omega) ?_; intro v8 w8 hown8 hb8 hk8 hg8; have hs8 := And.intro hb8 hk8))
        obtain ⟨A8, c8, rfl, -, -, -⟩ := own_formK hown8
        have hN : RS w (some ⟨b, o' + k * 32, none⟩) (n' - k) (l'.drop k) ∧ proveF F ls i true = proveF F (l'.drop k) i2 false ++ (outl ++ [d]).reverse ∧ (outl ++ [d]).length = m + 1 ∧ (∀ x ∈ outl ++ [d], x.length = 32) ∧ w8.ownsRow w.heap.size 26 32 (.slice A8 (m + 1) c8) (m + 1) ((outl ++ [d]).flatten.map B8) ∧ Below w.heap.size w w8 := by
          obtain ⟨q1, q2, q3, q4, -, -⟩ := hq.out
          have e := proveF_right (F := F) (l := l') (m := i') al hi0 (by have := Hl'.out; omega) (by rw [← Hk.out]; exact hik)
          rw [← Hk.out, ← Hd.out, ← Hi2.out] at e
          have hcut := q1.cut (k := k) (cap := c') (by omega) hnc'
          rw [if_neg (by omega), Option.map_some, Addr.add_mid] at hcut
          refine ⟨hcut, by rw [q2, e]; simp, by simp [q3], fun x hx => ?_, ?_, hb8⟩
          · rcases List.mem_append.1 hx with hx | hx
            · exact q4 x hx
            · simp at hx; subst hx; exact hd32
          · rw [List.flatten_append, List.map_append, ← Hxs.out]
            simpa using hown8
        have HNn := Lib.hid hN
        have bm : m + 1 + (n' - k) ≤ n := by omega
        have bc : n' - k ≤ c' - k := by omega
        have bc2 : c' - k ≤ c := by omega
        clear hN hown8 hb8 hk8 hg8 hs8 hs hq
        go_wp2_with fail
        go_roundw
        case rel => exact ⟨o' + k * 32, n' - k, c' - k, i2, m + 1, false, l'.drop k, outl ++ [d], A8, c8, rfl, by rw [IntWalk.i64_in _ ⟨by omega, by omega⟩], rfl, rfl, hi20, hi2n, bc, bc2, bm, HNn⟩
        case measure => show n' - k < n'; omega
end
/-- What steps answers. -/
def StepsPost (w : World) (ts : List Bool) (al : Bool) (e : Ending) (w' : World) : Prop := ∃ A c, e = .returned (.tuple #[.slice A ts.length c, .bool al]) ∧ w'.ownsRow w.heap.size 140 1 (.slice A ts.length c) ts.length (ts.map Value.bool) ∧ Below w.heap.size w w'
theorem rev_turns_all (W wr : World) (A : Option Addr) (m c : Nat) (ts : List Bool) (hown : wr.ownsRow W.heap.size 140 1 (.slice A m c) m (ts.map Value.bool)) (hl : ts.length = m) (hm : m ≤ 1048576) (hb : Below W.heap.size W wr) :
    Calls Try.prog 105 #[.slice A m c] wr fun e w' => e = .returned (.tuple #[]) ∧ w'.ownsRow W.heap.size 140 1 (.slice A m c) m (ts.reverse.map Value.bool) ∧ Below W.heap.size W w' := by
  by_cases hm0 : m = 0
  · subst hm0
    have hol : ts = [] := List.eq_nil_of_length_eq_zero hl
    refine (rev_turns_none wr A c).mono ?_
    rintro e w' ⟨he, rfl⟩
    rw [hol] at hown ⊢
    exact ⟨he, hown, hb⟩
  · obtain ⟨g, cap, hv, -, -⟩ := hown.form (by omega)
    injection hv with hv1 _ hv3
    subst hv1
    subst hv3
    refine (rev_turns wr W.heap.size g m c ts hown hl hm).mono ?_
    rintro e w' ⟨he, h1, h2⟩
    exact ⟨he, h1, h2 _ hb⟩
set_option maxRecDepth 100000 in
set_option maxHeartbeats 1000000 in
theorem steps_any (w : World) (m n : Nat) (h0 : 1 ≤ m) (hm : m ≤ n) (hn : n ≤ 1048576) :
    Calls Try.prog 94 #[.int .i64 (m : Int), .int .i64 (n : Int)] w (StepsPost w (stepsF m n).reverse ((stepsF m n).all id)) := by
  have hbd := stepsF_len n m h0
  obtain ⟨T, hT⟩ : ∃ T, T = stepsF m n := ⟨_, rfl⟩
  rw [← hT] at hbd ⊢
  have HT := Lib.hid hT
  clear hT
  go_enter Try.func94, Try.ntmps94
  go_wp2_with fail
  go_loopw [0, 1, 4, 5] (fun s0 s1 s4 s5 wr => ∃ (m' n' k : Nat) (al : Bool) (done : List Bool) (Av : Option Addr) (cv : Nat), s0 = .int .i64 (m' : Int) ∧ s1 = .int .i64 (n' : Int) ∧ s4 = .slice Av k cv ∧ s5 = .bool al ∧ 1 ≤ m' ∧ m' ≤ n' ∧ n' ≤ n ∧ k + n' ≤ n ∧
      Hid (T = done ++ stepsF m' n' ∧ done.length = k ∧ al = done.all id ∧ wr.ownsRow w.heap.size 140 1 (.slice Av k cv) k (done.map Value.bool) ∧ Below w.heap.size w wr)) (fun _ s1 _ _ _ => (intOf s1).toNat)
  case atStart => exact ⟨m, n, 0, true, [], none, 0, rfl, rfl, rfl, rfl, h0, hm, Nat.le_refl _, by omega, Lib.hid ⟨HT.out, rfl, rfl, World.ownsRow_nil _ _ _ _, Below.refl _ _⟩⟩
  case round =>
    obtain ⟨m', n', k, al, done, Av, cv, rfl, rfl, rfl, rfl, h0', hm', hn', hkn, hq⟩ := hrel
    by_cases h1 : n' ≤ m'
    · obtain rfl : m' = n' := by omega
      obtain ⟨q1, q2, q3, q4, q5⟩ := hq.out
      rw [stepsF_end (Nat.le_refl _), List.append_nil] at q1
      have dn : decide (m' < m') = false := decide_eq_false (by omega)
      have hrv := rev_turns_all w wr Av k cv done q4 q2 (by omega) q5
      have Hrv := Lib.hid hrv
      have HQ := Lib.hid (And.intro q1 (And.intro q2 q3))
      clear hq q1 q2 q3 q4 q5 hrv
      go_wp2_with fail
      refine Hrv.out.mono ?_
      rintro e w9 ⟨rfl, h9, hb9⟩
      have H9 := Lib.hid (And.intro h9 hb9)
      clear h9 hb9
      go_wp2_with fail
      go_ret2
      have hl : T.reverse.length = k := by rw [List.length_reverse, HQ.out.1, HQ.out.2.1]
      refine ⟨Av, cv, ?_, by rw [hl, HQ.out.1]; exact H9.out.1, H9.out.2⟩
      rw [hl, HQ.out.1, ← HQ.out.2.2]
      rfl
    · have hk1 := cutN_lt (n := n') (by omega)
      have hk2 := cutN_pos (n := n') (by omega)
      obtain ⟨c, hc⟩ : ∃ c, c = cutN n' := ⟨_, rfl⟩
      have hcutc := fun w => cut_any w (n' : Int) (by omega) (by omega)
      rw [Int.toNat_natCast, ← hc] at hcutc
      rw [← hc] at hk1 hk2
      have Hcut := Lib.hid hcutc
      have Hc := Lib.hid hc
      have dn : decide (m' < n') = true := decide_eq_true (by omega)
      obtain ⟨q1, q2, q3, q4, q5⟩ := hq.out
      have HQ := Lib.hid (And.intro q1 (And.intro q2 q3))
      obtain ⟨xs, hxs⟩ : ∃ xs, xs = done.map Value.bool := ⟨_, rfl⟩
      rw [← hxs] at q4
      have Hxs := Lib.hid hxs
      clear hcutc hc hq q1 q2 q3 hxs
      by_cases hik : m' ≤ c
      · have dk : decide (m' ≤ c) = true := decide_eq_true hik
        go_wp2_with (first
          | (go_at_call 36; refine (Hcut.out _).mono ?_; rintro e w' ⟨rfl, rfl⟩)
          | (at_builtin; refine wpList_append_keep rfl (.tmp 15) (.tmp 16) 137 rfl w (q5.alloc q5.size _) Try.underlying137 info_turn3 rfl (by decide) (.slice Av k cv) k xs rfl (q4.alloc _) (some ⟨wr.heap.size, 0, none⟩) 1 1 [.bool true] rfl (rc_new wr _ _ _) rfl (by intro u hu; simp at hu; subst hu; rfl) (by unfold maxLen; omega) (by omega) ?_; intro v8 w8 hown8 hb8 _ hg8 _; obtain ⟨A8, c8, rfl, -, -, -⟩ := own_formK hown8; have H8 := Lib.hid (And.intro hown8 hb8); clear hown8 hb8 hg8))
        have hN : Hid (T = (done ++ [true]) ++ stepsF m' c ∧ (done ++ [true]).length = k + 1 ∧ al = (done ++ [true]).all id ∧ w8.ownsRow w.heap.size 140 1 (.slice A8 (k + 1) c8) (k + 1) ((done ++ [true]).map Value.bool) ∧ Below w.heap.size w w8) := Lib.hid
          ⟨by rw [HQ.out.1, stepsF_left h0' (by omega) (by rw [← Hc.out]; exact hik), ← Hc.out]; simp, by simp [HQ.out.2.1], by rw [HQ.out.2.2]; simp, by rw [List.map_append, ← Hxs.out]; exact H8.out.1, H8.out.2⟩
        have bk : k + 1 + c ≤ n := by omega
        go_roundw
        case rel => exact ⟨m', c, k + 1, al, done ++ [true], A8, c8, rfl, rfl, rfl, rfl, h0', hik, by omega, bk, hN⟩
        case measure => simp [intOf]; omega
      · have dk : decide (m' ≤ c) = false := decide_eq_false hik
        obtain ⟨m2, hm2⟩ : ∃ m2, m2 = m' - c := ⟨_, rfl⟩
        obtain ⟨n2, hn2⟩ : ∃ n2, n2 = n' - c := ⟨_, rfl⟩
        have e1 : (m' : Int) - (c : Int) = (m2 : Int) := by omega
        have e2 : (n' : Int) - (c : Int) = (n2 : Int) := by omega
        have g1 : (c : Int) ≤ (m' : Int) := by omega
        have g2 : (c : Int) ≤ (n' : Int) := by omega
        have f1 : 1 ≤ m2 := by omega
        have f2 : m2 ≤ n2 := by omega
        have f3 : n2 < n' := by omega
        have f4 : k + 1 + n2 ≤ n := by omega
        have E := Lib.hid (And.intro e1 (And.intro e2 (And.intro hm2 hn2)))
        clear e1 e2 hm2 hn2
        go_wp2_with (first
          | (go_at_call 36; refine (Hcut.out _).mono ?_; rintro e w' ⟨rfl, rfl⟩)
          | (at_builtin; refine wpList_append_keep rfl (.tmp 19) (.tmp 20) 137 rfl w (q5.alloc q5.size _) Try.underlying137 info_turn3 rfl (by decide) (.slice Av k cv) k xs rfl (q4.alloc _) (some ⟨wr.heap.size, 0, none⟩) 1 1 [.bool false] rfl (rc_new wr _ _ _) rfl (by intro u hu; simp at hu; subst hu; rfl) (by unfold maxLen; omega) (by omega) ?_; intro v8 w8 hown8 hb8 _ hg8 _; obtain ⟨A8, c8, rfl, -, -, -⟩ := own_formK hown8; have H8 := Lib.hid (And.intro hown8 hb8); clear hown8 hb8 hg8))
        have hN : Hid (T = (done ++ [false]) ++ stepsF m2 n2 ∧ (done ++ [false]).length = k + 1 ∧ false = (done ++ [false]).all id ∧ w8.ownsRow w.heap.size 140 1 (.slice A8 (k + 1) c8) (k + 1) ((done ++ [false]).map Value.bool) ∧ Below w.heap.size w w8) := Lib.hid
          ⟨by rw [HQ.out.1, stepsF_right h0' (by omega) (by rw [← Hc.out]; exact hik), ← Hc.out, ← E.out.2.2.1, ← E.out.2.2.2]; simp, by simp [HQ.out.2.1], by simp, by rw [List.map_append, ← Hxs.out]; exact H8.out.1, H8.out.2⟩
        go_roundw
        case rel => exact ⟨m2, n2, k + 1, false, done ++ [false], A8, c8, by rw [E.out.1], by rw [E.out.2.1], rfl, rfl, f1, f2, by omega, f4, hN⟩
        case measure => have := E.out.2.1; simp [intOf]; omega
end Go.Proofs.Ytkcmacglomdfcaa
