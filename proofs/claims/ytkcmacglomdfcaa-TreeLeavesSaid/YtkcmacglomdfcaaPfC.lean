/-
  THE WALK of the document's Path.
-/
import Derived.Test.YtkcmacglomdfcaaPfB
namespace Go.Proofs.Ytkcmacglomdfcaa
open Go.RowKit

/-- What the document's Path answers: a row of the call's own. -/
def RowPost (w : World) (ps : List Dg) (e : Ending) (w' : World) : Prop := ∃ A c, e = .returned (.slice A ps.length c) ∧ w'.ownsRow w.heap.size 26 32 (.slice A ps.length c) ps.length (ps.flatten.map B8) ∧ Below w.heap.size w w'
section
variable {F : List UInt8 → List UInt8} (HF : Dig F)
include HF
set_option maxRecDepth 100000 in
set_option maxHeartbeats 2000000 in
theorem refpath_any : ∀ (f n : Nat), n ≤ f → ∀ (w : World) (A : Option Addr) (c : Nat) (ls : List Dg) (i : Nat), RS w A n ls → n ≤ c → c ≤ maxLen → n ≤ 1048576 → i < n →
    Calls Try.prog 61 #[.slice A n c, .int .i64 (i : Int)] w (RowPost w (pathF F ls i)) := by
  intro f
  induction f with
  | zero => intro n hf w A c ls i hr hc hm hn hi; omega
  | succ f ih =>
    intro n hf w A c ls i hr hc hm hn hi
    have hlen := hr.len
    have hm' := hm
    unfold maxLen at hm
    by_cases h1 : n = 1
    · have hps : pathF F ls i = [] := pathF_one (by omega)
      rw [hps]
      subst h1
      clear hr ih hps hlen hf
      go_enter Try.func61, Try.ntmps61
      go_wp2
      go_ret
      exact ⟨none, 0, rfl, World.ownsRow_nil _ _ _ _, Below.refl _ _⟩
    · have h2 : 2 ≤ ls.length := by omega
      have hk1 := cutN_lt h2
      have hk2 := cutN_pos h2
      obtain ⟨k, hk⟩ : ∃ k, k = cutN ls.length := ⟨_, rfl⟩
      have hcut : cutN n = k := by rw [hk, hlen]
      rw [← hk] at hk1 hk2
      obtain ⟨b, o, hA, -⟩ := hr.2.2 (by omega)
      subst hA
      have hcutc := fun w => refcut_any w (n : Int) (by omega) (by omega)
      rw [Int.toNat_natCast, hcut] at hcutc
      have Hcut := Lib.hid hcutc
      have Hk := Lib.hid hk
      have Hr := Lib.hid hr
      have HI := Lib.hid ih
      have hroot := refroot_any HF
      have HR := Lib.hid hroot
      have hlt := take_cut_len h2
      have hld : (ls.drop k).length = n - k := by rw [List.length_drop, hlen]
      rw [← hk] at hlt
      have b1 : k < n := by omega
      have b3 : (0 : Int) ≤ (k : Int) := by omega
      have b4 : (k : Int) ≤ (n : Int) := by omega
      have b5 : (n : Int) ≤ (c : Int) := by omega
      have b6 : (k : Int) ≤ (c : Int) := by omega
      have b7 : ¬ c = k := by omega
      have b8 : n ≠ 1 := h1
      have d1 : ((n : Int) == 1) = false := by simp; omega
      have hcut2 : ∀ u, Below w.heap.size w u → RS u (some ⟨b, o + k * 32, none⟩) (n - k) (ls.drop k) := fun u hu => by
        have hcut := (hr.below hu).cut (k := k) (cap := c) (by omega) hc
        rw [if_neg (by omega), Option.map_some, Addr.add_mid] at hcut
        exact hcut
      have hcut1 : ∀ u, Below w.heap.size w u → RS u (some ⟨b, o, none⟩) k (ls.take k) := fun u hu => (hr.below hu).take (by omega)
      have HC1 := Lib.hid hcut1
      have HC2 := Lib.hid hcut2
      have h32t : ∀ x ∈ ls.take k, x.length = 32 := fun x hx => hr.2.1 x (List.mem_of_mem_take hx)
      have h32d : ∀ x ∈ ls.drop k, x.length = 32 := fun x hx => hr.2.1 x (List.mem_of_mem_drop hx)
      by_cases hik : i < k
      · have dk : decide (i < k) = true := decide_eq_true hik
        have hps := pathF_left (F := F) (l := ls) (i := i) h2 (by rw [← hk]; exact hik)
        rw [← hk] at hps
        have hql := pathF_len (F := F) k (ls.take k) i hlt
        have hq1 := turns_len k i
        have hq32 := pathF_32 HF.len _ (ls.take k) i rfl h32t
        obtain ⟨d, hd⟩ : ∃ d, d = rootF F (ls.drop k) := ⟨_, rfl⟩
        have hd32 : d.length = 32 := by rw [hd]; exact rootF_len HF.len _ _ rfl h32d
        have hml : (d.map B8).length = 32 := by rw [List.length_map, hd32]
        obtain ⟨q, hq⟩ : ∃ q, q = pathF F (ls.take k) i := ⟨_, rfl⟩
        obtain ⟨m, hm0⟩ : ∃ m, m = q.length := ⟨_, rfl⟩
        have hmk : m ≤ k := by rw [hm0, hq, hql]; exact hq1
        rw [← hq, ← hd] at hps
        have HP : Hid (∀ u, Below w.heap.size w u → Calls Try.prog 61 #[.slice (some ⟨b, o, none⟩) k c, .int .i64 (i : Int)] u fun e w' => ∃ A c, e = .returned (.slice A m c) ∧ w'.ownsRow w.heap.size 26 32 (.slice A m c) m (q.flatten.map B8) ∧ Below w.heap.size w w') := Lib.hid fun u hu => by
          refine (HI.out k (by omega) u (some ⟨b, o, none⟩) c (ls.take k) i (HC1.out u hu) (by omega) hm' (by omega) hik).mono ?_
          rintro e w' ⟨A, c, he, hown, hb⟩
          rw [← hq, ← hm0] at he hown
          exact ⟨A, c, he, ownsRow_base hown hu.size, hu.trans (hb.mono hu.size)⟩
        have HQ : Hid (∀ u, Below w.heap.size w u → Calls Try.prog 39 #[.slice (some ⟨b, o + k * 32, none⟩) (n - k) (c - k)] u fun e w' => e = .returned (.agg (d.map B8).toArray) ∧ Below w.heap.size w w' ∧ Below u.heap.size u w') := Lib.hid fun u hu => by
          have h := HR.out (n - k) (n - k) (Nat.le_refl _) u (some ⟨b, o + k * 32, none⟩) (c - k) (ls.drop k) (HC2.out u hu) (by omega) (by omega) (by omega)
          rw [← hd] at h
          exact h.mono fun e w' ⟨h1, h2⟩ => ⟨h1, hu.trans (h2.mono hu.size), h2⟩
        have Hps := Lib.hid hps
        have Hm0 := Lib.hid hm0
        have HSd : Hid (Below w.heap.size w w.drew) := Lib.hid (below_drewN (Below.refl _ _) 1)
        obtain ⟨xs, hxs⟩ : ∃ xs, xs = q.flatten.map B8 := ⟨_, rfl⟩
        rw [← hxs] at HP
        have Hxs := Lib.hid hxs
        clear hr ih hroot hlen hcutc hk hcut hcut1 hcut2 h32t h32d hps hql hq1 hq32 hd hq hm0 hlt hld h2 hk1 hxs h1
        go_enter Try.func61, Try.ntmps61
        go_wp2_with (go_at_call 37; refine (Hcut.out _).mono ?_; rintro e w' ⟨rfl, rfl⟩)
        go_region_held3 (fun w' => Below w.heap.size w w')
          (first | exact HSd.out | assumption | exact Below.alloc (by assumption) (Below.size (by assumption)) _)
          (first
            | (go_at_call 61; refine (HP.out _ (by assumption)).mono ?_; rintro e wp ⟨Ap, cp, rfl, hown, hbp⟩)
            | (go_at_call 39; refine (HQ.out _ (by assumption)).mono ?_; rintro e wq ⟨rfl, hbq, hbq2⟩)
            | (refine step_append_row rfl (.tmp 19) (.tmp 24) 42 rfl w (by assumption) Try.underlying42 info_sum3 rfl (by decide) (.slice Ap m cp) m xs rfl ((ownsRow_below hown hbq2).alloc _) (some ⟨wq.heap.size, 0, none⟩) 1 1 (d.map B8) rfl (rc_new wq _ _ _) (by rw [hml]) (b8_oneCell d) (by unfold maxLen; omega) (by omega) ?_; intro v8 w8 hown8 hb8)
            | (refine step_append_row rfl (.tmp 19) (.tmp 24) 42 rfl w (by assumption) Try.underlying42 info_sum3 rfl (by decide) (.slice Ap m cp) m xs rfl (hown.alloc _) (some ⟨wp.heap.size, 0, none⟩) 1 1 (d.map B8) rfl (rc_new wp _ _ _) (by rw [hml]) (b8_oneCell d) (by unfold maxLen; omega) (by omega) ?_; intro v8 w8 hown8 hb8))
        all_goals
          obtain ⟨A8, c8, rfl, -, -, -⟩ := own_formK hown8
          go_wp2_with fail
          go_ret
          have e1 : (pathF F ls i).length = m + 1 := by rw [Hps.out, List.length_append, Hm0.out]; rfl
          refine ⟨A8, c8, by rw [e1]; rfl, ?_, hb8⟩
          rw [e1, Hps.out, List.flatten_append, List.map_append, ← Hxs.out]
          simpa using hown8
      · have dk : decide (i < k) = false := decide_eq_false hik
        obtain ⟨i2, hi2⟩ : ∃ i2, i2 = i - k := ⟨_, rfl⟩
        have ei : (i : Int) - (k : Int) = (i2 : Int) := by omega
        have bi : (k : Int) ≤ (i : Int) := by omega
        have hi2n : i2 < n - k := by omega
        have wi : IntKind.i64.wrap ((i : Int) - (k : Int)) = (i2 : Int) := by rw [ei, IntWalk.i64_in _ ⟨by omega, by omega⟩]
        have hps := pathF_right (F := F) (l := ls) (i := i) h2 (by rw [← hk]; exact hik)
        rw [← hk, ← hi2] at hps
        have hql := pathF_len (F := F) (n - k) (ls.drop k) i2 hld
        have hq1 := turns_len (n - k) i2
        have hq32 := pathF_32 HF.len _ (ls.drop k) i2 rfl h32d
        obtain ⟨d, hd⟩ : ∃ d, d = rootF F (ls.take k) := ⟨_, rfl⟩
        have hd32 : d.length = 32 := by rw [hd]; exact rootF_len HF.len _ _ rfl h32t
        have hml : (d.map B8).length = 32 := by rw [List.length_map, hd32]
        obtain ⟨q, hq⟩ : ∃ q, q = pathF F (ls.drop k) i2 := ⟨_, rfl⟩
        obtain ⟨m, hm0⟩ : ∃ m, m = q.length := ⟨_, rfl⟩
        have hmk : m ≤ n - k := by rw [hm0, hq, hql]; exact hq1
        rw [← hq, ← hd] at hps
        have HP : Hid (∀ u, Below w.heap.size w u → Calls Try.prog 61 #[.slice (some ⟨b, o + k * 32, none⟩) (n - k) (c - k), .int .i64 (i2 : Int)] u fun e w' => ∃ A c, e = .returned (.slice A m c) ∧ w'.ownsRow w.heap.size 26 32 (.slice A m c) m (q.flatten.map B8) ∧ Below w.heap.size w w') := Lib.hid fun u hu => by
          refine (HI.out (n - k) (by omega) u (some ⟨b, o + k * 32, none⟩) (c - k) (ls.drop k) i2 (HC2.out u hu) (by omega) (by omega) (by omega) hi2n).mono ?_
          rintro e w' ⟨A, c, he, hown, hb⟩
          rw [← hq, ← hm0] at he hown
          exact ⟨A, c, he, ownsRow_base hown hu.size, hu.trans (hb.mono hu.size)⟩
        have HQ : Hid (∀ u, Below w.heap.size w u → Calls Try.prog 39 #[.slice (some ⟨b, o, none⟩) k c] u fun e w' => e = .returned (.agg (d.map B8).toArray) ∧ Below w.heap.size w w' ∧ Below u.heap.size u w') := Lib.hid fun u hu => by
          have h := HR.out k k (Nat.le_refl _) u (some ⟨b, o, none⟩) c (ls.take k) (HC1.out u hu) (by omega) hm' (by omega)
          rw [← hd] at h
          exact h.mono fun e w' ⟨h1, h2⟩ => ⟨h1, hu.trans (h2.mono hu.size), h2⟩
        have Hps := Lib.hid hps
        have Hm0 := Lib.hid hm0
        have HSd : Hid (Below w.heap.size w w.drew) := Lib.hid (below_drewN (Below.refl _ _) 1)
        obtain ⟨xs, hxs⟩ : ∃ xs, xs = q.flatten.map B8 := ⟨_, rfl⟩
        rw [← hxs] at HP
        have Hxs := Lib.hid hxs
        clear hr ih hroot hlen hcutc hk hcut hcut1 hcut2 h32t h32d hps hql hq1 hq32 hd hq hm0 hlt hld h2 hk1 hxs h1 hi2 ei
        go_enter Try.func61, Try.ntmps61
        go_wp2_with (go_at_call 37; refine (Hcut.out _).mono ?_; rintro e w' ⟨rfl, rfl⟩)
        go_region_held3 (fun w' => Below w.heap.size w w')
          (first | exact HSd.out | assumption | exact Below.alloc (by assumption) (Below.size (by assumption)) _)
          (first
            | (go_at_call 61; refine (HP.out _ (by assumption)).mono ?_; rintro e wp ⟨Ap, cp, rfl, hown, hbp⟩)
            | (go_at_call 39; refine (HQ.out _ (by assumption)).mono ?_; rintro e wq ⟨rfl, hbq, hbq2⟩)
            | (refine step_append_row rfl (.tmp 32) (.tmp 37) 42 rfl w (by assumption) Try.underlying42 info_sum3 rfl (by decide) (.slice Ap m cp) m xs rfl ((ownsRow_below hown hbq2).alloc _) (some ⟨wq.heap.size, 0, none⟩) 1 1 (d.map B8) rfl (rc_new wq _ _ _) (by rw [hml]) (b8_oneCell d) (by unfold maxLen; omega) (by omega) ?_; intro v8 w8 hown8 hb8)
            | (refine step_append_row rfl (.tmp 32) (.tmp 37) 42 rfl w (by assumption) Try.underlying42 info_sum3 rfl (by decide) (.slice Ap m cp) m xs rfl (hown.alloc _) (some ⟨wp.heap.size, 0, none⟩) 1 1 (d.map B8) rfl (rc_new wp _ _ _) (by rw [hml]) (b8_oneCell d) (by unfold maxLen; omega) (by omega) ?_; intro v8 w8 hown8 hb8))
        all_goals
          obtain ⟨A8, c8, rfl, -, -, -⟩ := own_formK hown8
          go_wp2_with fail
          go_ret
          have e1 : (pathF F ls i).length = m + 1 := by rw [Hps.out, List.length_append, Hm0.out]; rfl
          refine ⟨A8, c8, by rw [e1]; rfl, ?_, hb8⟩
          rw [e1, Hps.out, List.flatten_append, List.map_append, ← Hxs.out]
          simpa using hown8
end
end Go.Proofs.Ytkcmacglomdfcaa
