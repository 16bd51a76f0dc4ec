/-
  THE WALKS of proof.way, its iterator, sound, Length, and of slices.Collect at turns.
-/
import Derived.Test.YtkcmacglomdfcaaPlain
import Derived.Test.YtkcmacglomdfcaaRevS
import Derived.Test.YtkcmacglomdfcaaLfB2
import Derived.Test.YtkcmacglomdfcaaKeep
import Derived.Test.YtkcmacglomdfcaaIterF
import Derived.Deep.RegionHeld3
import Derived.Outline
import Derived.WalkSmall
namespace Go.Proofs.Ytkcmacglomdfcaa
open Go.RowKit Go.Shelf
attribute [local go_sem] Oper.semAt_some

/-- What round k of the ways is handed. -/
def WyOk (T : List Bool) (k : Nat) (args : Array Value) (_ : World) : Prop := ∃ t, T[k]? = some t ∧ args = #[.bool t]
theorem wyOk_size {T : List Bool} {k : Nat} {args : Array Value} {W : World} (h : WyOk T k args W) : args.size = 1 := by
  obtain ⟨t, _, rfl⟩ := h
  rfl
theorem drop_cons_at {α : Type} {T : List α} {k : Nat} {t : α} {r : List α} (h : T.drop k = t :: r) : k < T.length ∧ T[k]? = some t ∧ T.drop (k + 1) = r := by
  refine ⟨?_, ?_, ?_⟩
  · rcases Nat.lt_or_ge k T.length with h1 | h1
    · exact h1
    · rw [List.drop_eq_nil_of_le h1] at h; cases h
  · have := congrArg (·[0]?) h
    simpa using this
  · rw [show T.drop (k + 1) = (T.drop k).drop 1 from by rw [List.drop_drop], h]
    rfl
set_option maxRecDepth 100000 in
set_option maxHeartbeats 4000000 in
theorem way1_iter (b1 b2 i n : Nat) (T : List Bool) (hT : T = turns i n) (hn : n ≤ 1048576) (hi : i < n) :
    IterOf Try.prog 106 #[.pointer (some ⟨b1, 0, none⟩), .pointer (some ⟨b2, 0, none⟩)] T.length (WyOk T) (fun _ _ => True)
      (fun W => W.cell? ⟨b1, 0, none⟩ = some (.int .i64 (i : Int)) ∧ W.cell? ⟨b2, 0, none⟩ = some (.int .i64 (n : Int))) := by
  intro m l J Jx W sJ sJx hpre hY h0
  obtain ⟨hb, hbn⟩ := hpre
  have HT : Hid (T.drop 0 = turns i n) := Lib.hid (by rw [hT]; rfl)
  clear hT
  refine callsIn_of_wp Try.func106 rfl trivial ?_ rfl
  simp only [Try.ntmps106, List.size_toArray, List.length_cons, List.length_nil, Nat.reduceAdd, Nat.reduceSub, Array.replicate_succ, Array.replicate_zero, List.push_toArray, List.append_toArray, List.nil_append, List.cons_append]
  gi_wp2_with fail
  rw [wpIn_wide]
  go_region_held3 (fun w' => w'.cell? ⟨b1, 0, none⟩ = some (.int .i64 (i : Int)) ∧ w'.cell? ⟨b2, 0, none⟩ = some (.int .i64 (n : Int))) (go_keep) (fail)
  have J1 := sJ _ _ _ h0 (below_drewN (Below.refl W.heap.size W) 1)
  have J1' : J 0 W.drew := J1
  clear J1 hb hbn h0
  generalize W.drew = w1 at J1' ⊢
  gi_wp2_with fail
  gi_loopw [4, 5] (fun a s wr => ∃ (k i' n' : Nat), a = .int .i64 (i' : Int) ∧ s = .int .i64 (n' : Int) ∧ i' < n' ∧ n' ≤ n ∧ k ≤ T.length ∧ Hid (T.drop k = turns i' n') ∧ J k wr) (fun _ s _ => (intOf s).toNat)
  case atStart => exact ⟨0, i, n, rfl, rfl, hi, Nat.le_refl _, Nat.zero_le _, HT, J1'⟩
  case round =>
    obtain ⟨k, i', n', rfl, rfl, hi', hn', hk, hd, hJ⟩ := hrel
    by_cases h1 : n' ≤ 1
    · obtain rfl : n' = 1 := by omega
      have hkT : k = T.length := by
        have h := hd.out
        rw [turns_one (by omega)] at h
        have := List.drop_eq_nil_iff.1 h
        omega
      subst hkT
      clear hd
      gi_wp2_with fail
      refine bodyPost_end (results_none rfl _ _ _) rfl ?_
      exact ⟨⟨_, rfl⟩, .inl hJ⟩
    · have hc1 := cutN_lt (n := n') (by omega)
      have hc2 := cutN_pos (n := n') (by omega)
      obtain ⟨c, hc⟩ : ∃ c, c = cutN n' := ⟨_, rfl⟩
      rw [← hc] at hc1 hc2
      have hcut := fun w => cut_any w (n' : Int) (by omega) (by omega)
      rw [Int.toNat_natCast, ← hc] at hcut
      have Hcut := Lib.hid hcut
      have dn : decide ((1 : Int) < (n' : Int)) = true := decide_eq_true (by omega)
      by_cases hik : i' < c
      · have dk : decide ((i' : Int) < (c : Int)) = true := decide_eq_true (by omega)
        have dg : decide ((c : Int) ≤ (i' : Int)) = false := decide_eq_false (by omega)
        have hts : T.drop k = true :: turns i' c := by rw [hd.out, turns_left (by omega) (by rw [← hc]; exact hik), hc]
        obtain ⟨hkl, hTk, hnx⟩ := drop_cons_at hts
        have HN := Lib.hid hnx
        obtain ⟨fn, tmps, assign, body, hy, hR⟩ := hY k #[.bool true] wr hkl hJ ⟨true, hTk, rfl⟩
        clear hcut hc hts hTk hnx hd
        gi_wp2_with fail
        refine ⟨trivial, fun h => by simp [Fence.wide] at h, callsIn_wide.2 ((Hcut.out _).mono ?_)⟩
        rintro e w' ⟨rfl, rfl⟩
        gi_wp2_with fail
        refine ⟨fun h => by simp [Fence.wide] at h, hR.mono ?_⟩
        rintro e w3 (⟨rfl, hJ3, -⟩ | ⟨rfl, hJx3⟩)
        · gi_wp2_with (((with_reducible show wpListIn _ _ _ _ _ (⟨some 27, _, _, _, _, _⟩ :: _) _ _); refine wpListIn_skip rfl (by simp [Oper.about, resolve, undef, go_sem]) ?_))
          go_roundw
          case rel => exact ⟨k + 1, i', c, rfl, rfl, hik, by omega, hkl, HN, hJ3⟩
          case measure => simp [intOf]; omega
        · gi_wp2_with (first | ((with_reducible show wpListIn _ _ _ _ _ (⟨some 26, _, _, _, _, _⟩ :: _) _ _); refine wpListIn_skip rfl (by simp [Oper.about, go_sem]) ?_) | ((with_reducible show wpListIn _ _ _ _ _ (⟨some 27, _, _, _, _, _⟩ :: _) _ _); refine wpListIn_skip rfl (by simp [Oper.about, resolve, undef, go_sem]) ?_) | ((with_reducible show wpListIn _ _ _ _ _ (⟨some 28, _, _, _, _, _⟩ :: _) _ _); refine wpListIn_skip rfl (by simp [Oper.about, resolve, undef, go_sem]) ?_))
          refine bodyPost_ret (results_none rfl _ _ _) rfl ?_
          exact ⟨⟨_, rfl⟩, .inr ⟨k, hkl, hJx3⟩⟩
      · have dk : decide ((i' : Int) < (c : Int)) = false := decide_eq_false (by omega)
        have dg : decide ((c : Int) ≤ (i' : Int)) = true := decide_eq_true (by omega)
        obtain ⟨i2, hi2⟩ : ∃ i2, i2 = i' - c := ⟨_, rfl⟩
        obtain ⟨n2, hn2⟩ : ∃ n2, n2 = n' - c := ⟨_, rfl⟩
        have hts : T.drop k = false :: turns i2 n2 := by rw [hd.out, turns_right (by omega) (by rw [← hc]; exact hik), hi2, hn2, hc]
        obtain ⟨hkl, hTk, hnx⟩ := drop_cons_at hts
        have HN := Lib.hid hnx
        have e1 : (i' : Int) - (c : Int) = (i2 : Int) := by omega
        have e2 : (n' : Int) - (c : Int) = (n2 : Int) := by omega
        have f1 : i2 < n2 := by omega
        have f2 : n2 < n' := by omega
        have g1 : (c : Int) ≤ (i' : Int) := by omega
        have g2 : (c : Int) ≤ (n' : Int) := by omega
        have E1 := Lib.hid e1
        have E2 := Lib.hid e2
        obtain ⟨fn, tmps, assign, body, hy, hR⟩ := hY k #[.bool false] wr hkl hJ ⟨false, hTk, rfl⟩
        clear hcut hc hts hTk hnx hd hi2 hn2 e1 e2
        gi_wp2_with fail
        refine ⟨trivial, fun h => by simp [Fence.wide] at h, callsIn_wide.2 ((Hcut.out _).mono ?_)⟩
        rintro e w' ⟨rfl, rfl⟩
        gi_wp2_with (((with_reducible show wpListIn _ _ _ _ _ (⟨some 18, _, _, _, _, _⟩ :: _) _ _); refine wpListIn_skip rfl (by simp [Oper.about, resolve, undef, go_sem]) ?_))
        refine ⟨fun h => by simp [Fence.wide] at h, hR.mono ?_⟩
        rintro e w3 (⟨rfl, hJ3, -⟩ | ⟨rfl, hJx3⟩)
        · gi_wp2_with fail
          go_roundw
          case rel => exact ⟨k + 1, i2, n2, by rw [E1.out], by rw [E2.out], f1, by omega, hkl, HN, hJ3⟩
          case measure => have := E2.out; simp [intOf]; omega
        · gi_wp2_with fail
          refine bodyPost_ret (results_none rfl _ _ _) rfl ?_
          exact ⟨⟨_, rfl⟩, .inr ⟨k, hkl, hJx3⟩⟩
theorem way_any (w : World) (i n : Int) :
    Calls Try.prog 92 #[.int .i64 i, .int .i64 n] w fun e w' => e = .returned (.func (.func 106) #[] #[.pointer (some ⟨w.heap.size, 0, none⟩), .pointer (some ⟨w.heap.size + 1, 0, none⟩)]) ∧
      (w.alloc (.cells #[.int .i64 i] 3)).alloc (.cells #[.int .i64 n] 3) = w' := by
  go_enter Try.func92, Try.ntmps92
  go_wp2
  go_ret
  exact ⟨rfl, rfl⟩
theorem sound_yes (w : World) (i n : Nat) (hi : i < n) (hn : n ≤ 1048576) : Calls Try.prog 91 #[.int .i64 (i : Int), .int .i64 (n : Int)] w fun e w' => e = .returned (.bool true) ∧ w = w' := by
  have d1 : decide ((1 : Int) ≤ (n : Int)) = true := decide_eq_true (by omega)
  have d2 : decide ((n : Int) ≤ 1048576) = true := decide_eq_true (by omega)
  have d3 : decide ((0 : Int) ≤ (i : Int)) = true := decide_eq_true (by omega)
  have d4 : decide ((i : Int) < (n : Int)) = true := decide_eq_true (by omega)
  go_enter Try.func91, Try.ntmps91
  go_wp2
  go_ret
  exact ⟨rfl, rfl⟩
theorem sound_no (w : World) (i n : Int) (h : ¬ (1 ≤ n ∧ n ≤ 1048576 ∧ 0 ≤ i ∧ i < n)) : Calls Try.prog 91 #[.int .i64 i, .int .i64 n] w fun e w' => e = .returned (.bool false) ∧ w = w' := by
  by_cases h1 : 1 ≤ n
  · have d1 : decide ((1 : Int) ≤ n) = true := decide_eq_true h1
    by_cases h2 : n ≤ 1048576
    · have d2 : decide (n ≤ 1048576) = true := decide_eq_true h2
      by_cases h3 : 0 ≤ i
      · have d3 : decide (0 ≤ i) = true := decide_eq_true h3
        have d4 : decide (i < n) = false := decide_eq_false (by omega)
        clear h
        go_enter Try.func91, Try.ntmps91
        go_wp2
        go_ret
        exact ⟨rfl, rfl⟩
      · have d3 : decide (0 ≤ i) = false := decide_eq_false h3
        clear h h3
        go_enter Try.func91, Try.ntmps91
        go_wp2
        go_ret
        exact ⟨rfl, rfl⟩
    · have d2 : decide (n ≤ 1048576) = false := decide_eq_false h2
      clear h h2
      go_enter Try.func91, Try.ntmps91
      go_wp2
      go_ret
      exact ⟨rfl, rfl⟩
  · have d1 : decide (1 ≤ n) = false := decide_eq_false h1
    clear h h1
    go_enter Try.func91, Try.ntmps91
    go_wp2
    go_ret
    exact ⟨rfl, rfl⟩
theorem length_no (w : World) (i n : Int) (h : ¬ (1 ≤ n ∧ n ≤ 1048576 ∧ 0 ≤ i ∧ i < n)) : Calls Try.prog 63 #[.int .i64 i, .int .i64 n] w fun e w' => e = .returned (.int .i64 (-1)) ∧ w = w' := by
  have hs := fun w => sound_no w i n h
  have HS := Lib.hid hs
  clear hs h
  go_enter Try.func63, Try.ntmps63
  go_wp2_with (go_at_call 91; refine (HS.out _).mono ?_; rintro e w' ⟨rfl, rfl⟩)
  go_ret
  exact ⟨rfl, rfl⟩
set_option maxRecDepth 100000 in
set_option maxHeartbeats 1000000 in
theorem length_yes (w : World) (i n : Nat) (hi : i < n) (hn : n ≤ 1048576) : Calls Try.prog 63 #[.int .i64 (i : Int), .int .i64 (n : Int)] w fun e w' => e = .returned (.int .i64 ((turns i n).length : Int)) ∧ Below w.heap.size w w' := by
  have hs := fun w => sound_yes w i n hi hn
  have hlen := turns_len n i
  obtain ⟨T, hT⟩ : ∃ T, T = turns i n := ⟨_, rfl⟩
  rw [← hT] at hlen ⊢
  have HS := Lib.hid hs
  have HT := Lib.hid hT
  clear hs hT
  refine (callsIn_wide (n := 9)).1 ?_
  refine callsIn_of_wp_marks Try.func63 rfl trivial ?_ rfl
  rw [wpIn_wide]
  simp only [Try.ntmps63, List.size_toArray, List.length_cons, List.length_nil, Nat.reduceAdd, Nat.reduceSub, Array.replicate_succ, Array.replicate_zero, List.push_toArray, List.append_toArray, List.nil_append, List.cons_append]
  go_wp2_with (go_at_call 91; refine (HS.out _).mono ?_; rintro e w' ⟨rfl, rfl⟩)
  obtain ⟨W0, hW0⟩ : ∃ W0, W0 = w.alloc (.cells #[.int .i64 0] 3) := ⟨_, rfl⟩
  have hb0 : Below w.heap.size w W0 := by rw [hW0]; exact (Below.refl _ _).alloc (Nat.le_refl _) _
  have hs0 : W0.heap.size = w.heap.size + 1 := by rw [hW0]; simp
  have hc0 : W0.heap[w.heap.size]? = some (.cells #[.int .i64 ((0 : Nat) : Int)] 3 (0, 0)) := by rw [hW0]; exact heap_alloc_new w _
  rw [← hW0]
  clear hW0
  refine (way_any _ _ _).mono ?_
  rintro e w6 ⟨rfl, hw6⟩
  have h6 : Below W0.heap.size W0 w6 := by rw [← hw6]; exact ((Below.refl _ _).alloc (Nat.le_refl _) _).alloc (by simp) _
  have c6 : w6.heap[w.heap.size + 1]? = some (.cells #[.int .i64 (i : Int)] 3 (0, 0)) := by
    rw [← hw6, ← hs0]
    exact (Below.heap_alloc _ _ _ (by simp)).trans (heap_alloc_new W0 _)
  have d6 : w6.heap[w.heap.size + 1 + 1]? = some (.cells #[.int .i64 (n : Int)] 3 (0, 0)) := by
    rw [← hw6, ← hs0]
    exact heap_alloc_at _ _ _ (by simp)
  have s6 : w6.heap.size = w.heap.size + 3 := by rw [← hw6]; simp; omega
  have e6 := heap_below hc0 h6
  have b06 := hb0.trans (h6.mono hb0.size)
  clear hw6
  go_wp2_with fail
  refine wp_rangeIterF (n := 9) rfl (enters_of Try.func106 (by kernel_rfl) rfl) (way1_iter (w.heap.size + 1) (w.heap.size + 1 + 1) i n T HT.out hn hi) (fun k args W h => wyOk_size h) (fun _ _ => trivial) (fun _ _ _ _ _ _ _ => trivial) (fun k args W l o o' h _ _ _ => h)
    (fun k W => Below w.heap.size w W ∧ W.heap[w.heap.size]? = some (.cells #[.int .i64 (k : Int)] 3 (0, 0)) ∧ k ≤ n) (fun _ _ _ => False)
    (fun k W W' h hb => ⟨h.1.trans (hb.mono h.1.size), heap_below h.2.1 hb, h.2.2⟩) (fun c k W W' h hb => h)
    (fun k W l o o' h hl ho hoc => ⟨below_putObj W l o' h.1 (by omega) h.1.size, heap_putObj h.2.1 o' ho hoc, h.2.2⟩) (fun c k W l o o' h _ _ _ => h)
    (fun W hb => ⟨(hb.cell (p := ⟨w.heap.size + 1, 0, none⟩) (by show w.heap.size + 1 < w6.heap.size; omega)).trans (by rw [cell_of_row _ _ _ _ _ _ c6]; rfl), (hb.cell (p := ⟨w.heap.size + 1 + 1, 0, none⟩) (by show w.heap.size + 1 + 1 < w6.heap.size; omega)).trans (by rw [cell_of_row _ _ _ _ _ _ d6]; rfl)⟩)
    ⟨b06, e6, Nat.zero_le _⟩
    (fun args T => T.setIfInBounds 13 (args.getD 0 undef))
    ?assign ?body ?done ?stop
  case assign =>
    rintro l k args W K ⟨t, _, rfl⟩ hK
    gi_wp2
    simpa using hK
  case body =>
    rintro l k args W hk ⟨hbw, hc, hkn⟩ ⟨t, _, rfl⟩
    have hcell : W.cell? ⟨w.heap.size, 0, none⟩ = some (.int .i64 (k : Int)) := by rw [cell_of_row _ _ _ _ _ _ hc]; rfl
    have hfr := frozen_blk hc 0
    have Hc := Lib.hid hc
    simp only [show ∀ a : Value, #[a].getD 0 undef = a from fun _ => rfl, List.setIfInBounds_toArray, List.set_cons_succ, List.set_cons_zero]
    clear hc
    gi_wp2
    refine ⟨KeepsOthers.setCell _ _ _, trivial, hbw.setCell (p := ⟨w.heap.size, 0, none⟩) (Nat.le_refl _) _, ?_, by omega⟩
    rw [heap_setCell_same W w.heap.size 0 _ _ _ Hc.out]
    rfl
  case done =>
    rintro D W hD ⟨hbw, hc, hkn⟩ hK
    have hcell : W.cell? ⟨w.heap.size, 0, none⟩ = some (.int .i64 (T.length : Int)) := by rw [cell_of_row _ _ _ _ _ _ hc]; rfl
    clear hc
    simp only [Exit.inBlock, Exit.then]
    go_wp2
    refine ⟨by simp, .inl ⟨_, _, rfl, run_takeDeferred hK, ?_⟩⟩
    exact ⟨_, results_tmp rfl _ _ _, rfl, below_putObj W D _ hbw (by omega) hbw.size⟩
  case stop =>
    intro D c k W _ _ h _
    exact h.elim
end Go.Proofs.Ytkcmacglomdfcaa
