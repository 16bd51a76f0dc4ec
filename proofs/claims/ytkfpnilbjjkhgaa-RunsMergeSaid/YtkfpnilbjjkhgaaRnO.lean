/-
  THE WALKS of the document's answer (cachetref19) and of the statements' own helpers.
-/
import Derived.Test.YtkfpnilbjjkhgaaRnN
namespace Go.Proofs.Ytkfpnilbjjkhgaa
open Go.RowKit Go.Lib Go.Sort

set_option maxRecDepth 100000 in
theorem before_any (p q : Po) (w : World) : Calls Try.prog 27 #[PV p, PV q] w fun e w' => e = .returned (.bool (ltP p q)) ∧ Below w.heap.size w w' := by
  have hb2 : Below w.heap.size w ((w.alloc (.cells (encP p).toArray 32)).alloc (.cells (encP q).toArray 32)) := ((Below.refl _ _).alloc (Nat.le_refl _) _).alloc (by simp) _
  have HB := Lib.hid hb2
  clear hb2
  rcases cb_three p.1 q.1 with h | h | h
  · have hl : Go.Op.bytesLess p.1 q.1 = true := by rw [less_cb]; simp [h]
    have hr : ltP p q = true := (ltP_iff p q).2 (.inl (by omega))
    rw [hr]
    clear h hr
    unfold PV
    go_enter Try.func27, Try.ntmps27
    go_wp2
    go_ret
    exact ⟨rfl, HB.out⟩
  · obtain ⟨p1, p2⟩ := p
    obtain ⟨q1, q2⟩ := q
    obtain rfl : p1 = q1 := cb_zero _ _ h
    have hl : Go.Op.bytesLess p1 p1 = false := by rw [less_cb, cb_self]; rfl
    have hr : ltP (p1, p2) (p1, q2) = decide (p2 < q2) := by
      rw [Bool.eq_iff_iff, ltP_iff, cb_self, decide_eq_true_eq]
      constructor
      · rintro (h | ⟨-, h⟩)
        · omega
        · exact h
      · exact fun h => .inr ⟨rfl, h⟩
    rw [hr]
    clear h hr
    unfold PV
    go_enter Try.func27, Try.ntmps27
    go_wp2
    go_ret
    exact ⟨rfl, HB.out⟩
  · have hl : Go.Op.bytesLess p.1 q.1 = false := by rw [less_cb]; simp [h]
    have hne : p.1 ≠ q.1 := fun e => by rw [e, cb_self] at h; cases h
    have hz : (p.1 == q.1) = false := by simpa using hne
    have hr : ltP p q = false := by
      cases hx : ltP p q with
      | false => rfl
      | true =>
        rw [ltP_iff] at hx
        rcases hx with hx | ⟨hx, -⟩
        · omega
        · exact absurd hx hne
    rw [hr]
    clear h hr hne
    unfold PV
    go_enter Try.func27, Try.ntmps27
    go_wp2
    go_ret
    exact ⟨rfl, HB.out⟩
theorem keys_next {ls : List Po} {k : Nat} {p q : Po} (hp : ls[k]? = some p) (hq : ls[k + 1]? = some q) : keysF (ls.take (k + 2)) = if p.1 = q.1 then keysF (ls.take (k + 1)) else keysF (ls.take (k + 1)) ++ [q.1] := by
  rw [take_snoc hq, keysF_snoc, keyStep]
  have h : (keysF (ls.take (k + 1))).getLast? = some p.1 := by rw [take_snoc hp]; exact keysF_last _ _
  rw [h]
  simp
theorem keys_first {ls : List Po} {q : Po} (hq : ls[0]? = some q) : keysF (ls.take 1) = [q.1] := by
  rw [show (1 : Nat) = 0 + 1 from rfl, take_snoc hq, keysF_snoc, keyStep]
  simp [keysF]
set_option maxRecDepth 100000 in
set_option maxHeartbeats 1000000 in
theorem refKeys_any (w : World) (A : Option Addr) (n c : Nat) (ls : List Po) (h : RP w A n ls) (hn : n ≤ 1000000) :
    Calls Try.prog 25 #[.slice A n c] w (TextsPost w (keysF ls)) := by
  have H := Lib.hid h
  have hl := h.1
  have Hl := Lib.hid hl
  clear h hl
  go_enter Try.func25, Try.ntmps25
  go_wp2
  go_loopw [3, 4] (fun v s wr => ∃ k : Nat, k ≤ n ∧ s = .int .i64 (k : Int) ∧ Hid (wr.ownsRow w.heap.size 9 1 v (keysF (ls.take k)).length ((keysF (ls.take k)).map Str) ∧ Below w.heap.size w wr)) (fun _ s _ => n - (intOf s).toNat)
  case atStart => exact ⟨0, Nat.zero_le _, rfl, Lib.hid ⟨World.ownsRow_nil _ _ _ _, Below.refl _ _⟩⟩
  case round =>
    obtain ⟨k, hk, rfl, HO⟩ := hrel
    by_cases hlt : k < n
    · obtain ⟨b, o, q, rfl, hq, hrq, cq, -⟩ := (H.out.below HO.out.2).at_ hlt
      have hkl := keysF_le (ls.take k)
      rw [List.length_take] at hkl
      have hkl2 : (keysF (ls.take k)).length ≤ 1000000 := by omega
      have hwq := rangeAt_below' hrq (below_drewN (Below.refl wr.heap.size wr) 1)
      clear hkl
      rcases Nat.eq_zero_or_pos k with h0 | h0
      · subst h0
        have hst : keysF (ls.take (0 + 1)) = [] ++ [q.1] := keys_first hq
        have HS := Lib.hid hst
        have hown := HO.out.1
        rw [List.take_zero] at hown
        have hoz : wr.ownsRow w.heap.size 9 1 u3 0 [] := hown
        have Hoz := Lib.hid hoz
        clear hst hown hoz hq hkl2
        go_wp2_with fail
        refine wp_region_quiet (C := fun u => ∃ m, u = wr.drewN m) (by kernel_rfl) (by kernel_rfl) ⟨1, rfl⟩ ?_
        simp only []
        repeat (go_big_quiet_step (fail))
        refine wpQuiet_nil ?_
        rintro _ ⟨m, rfl⟩
        have hoV := ownsRow_below Hoz.out (below_drewN (Below.refl _ _) m)
        have hbV := below_drewN HO.out.2 m
        have cV : (wr.drewN m).cell? ⟨b, o, none⟩ = some (.string ⟨q.1.toArray⟩) := by simpa using cq
        obtain ⟨V, hV⟩ : ∃ V, V = wr.drewN m := ⟨_, rfl⟩
        rw [← hV] at hoV hbV cV ⊢
        clear hV cq
        go_wp2_with (at_builtin; refine wpList_append_row rfl (.tmp 27) (.tmp 33) 44 rfl w (hbV.alloc hbV.size _) Try.underlying44 info_str rfl (by decide) _ 0 ([]) rfl (hoV.alloc _) (some ⟨V.heap.size, 0, none⟩) 1 1 [.string ⟨q.1.toArray⟩] rfl (rc_new V _ _ _) rfl (one_str _) (by unfold maxLen; omega) (by omega) ?_; intro v3 w3 hown3 hb3; have H3 := Lib.hid (And.intro hown3 hb3); clear hown3 hb3)
        go_roundw
        case rel => exact ⟨0 + 1, by omega, by go_num, Lib.hid ⟨by rw [HS.out]; exact H3.out.1, H3.out.2⟩⟩
        case measure => simp [intOf]; omega
      · obtain ⟨k', rfl⟩ : ∃ k', k = k' + 1 := ⟨k - 1, by omega⟩
        obtain ⟨b2, o2, p, e2, hp, -, cp, -⟩ := (H.out.below HO.out.2).at_ (i := k') (by omega)
        cases e2
        have hnx := keys_next hp hq
        have Hnx := Lib.hid hnx
        have hz : (((k' : Int) + 1) == 0) = false := by rw [beq_eq_false_iff_ne]; omega
        have h1 : IntKind.i64.wrap (((k' + 1 : Nat) : Int) - 1) = (k' : Int) := by rw [IntWalk.i64_in _ (by omega)]; omega
        obtain ⟨bn, hbn⟩ : ∃ bn, bn = !decide (p.1 = q.1) := ⟨_, rfl⟩
        have Hbn := Lib.hid hbn
        obtain ⟨K, hK⟩ : ∃ K, K = keysF (ls.take (k' + 1)) := ⟨_, rfl⟩
        have HKK := Lib.hid hK
        rw [← hK] at hkl2
        clear hnx hp hq hbn hK
        go_wp2_with fail
        refine wp_region_quiet (C := fun u => ∃ m, u = wr.drewN m) (by kernel_rfl) (by kernel_rfl) ⟨1, rfl⟩ ?_
        simp only []
        repeat (first
          | ((with_reducible show wpQuiet _ _ _ _ (⟨_, Op.binOp .neq 9 _ _ _, _, _, _, _⟩ :: _) _); refine wpQ_val rfl (.bool bn) (fun u _ => (exec_neq_str rfl p.1 q.1 rfl rfl u).trans (by rw [Hbn.out])) ?_; simp only [Act.put, List.setIfInBounds_toArray, List.set_cons_zero, List.set_cons_succ])
          | go_big_quiet_step (fail))
        refine wpQuiet_nil ?_
        rintro _ ⟨m, rfl⟩
        have hoV := ownsRow_below HO.out.1 (below_drewN (Below.refl _ _) m)
        have hbV := below_drewN HO.out.2 m
        have cV : (wr.drewN m).cell? ⟨b, o + (k' + 1) * 2, none⟩ = some (.string ⟨q.1.toArray⟩) := cq
        obtain ⟨V, hV⟩ : ∃ V, V = wr.drewN m := ⟨_, rfl⟩
        rw [← hV] at hoV hbV cV ⊢
        rw [← HKK.out] at hoV
        clear hV cq cp hz h1
        cases bn with
        | false =>
          have he : p.1 = q.1 := by have := Hbn.out; simpa using this.symm
          have hst : keysF (ls.take (k' + 1 + 1)) = K := by rw [Hnx.out, if_pos he, HKK.out]
          have HS := Lib.hid (show V.ownsRow w.heap.size 9 1 u3 (keysF (ls.take (k' + 1 + 1))).length ((keysF (ls.take (k' + 1 + 1))).map Str) ∧ Below w.heap.size w V from ⟨by rw [hst]; exact hoV, hbV⟩)
          clear he hst cV hoV hbV
          go_wp2
          go_roundw
          case rel => exact ⟨k' + 1 + 1, by omega, by go_num, HS⟩
          case measure => simp [intOf]; omega
        | true =>
          have he : ¬ p.1 = q.1 := by have := Hbn.out; simpa using this.symm
          have hst : keysF (ls.take (k' + 1 + 1)) = K ++ [q.1] := by rw [Hnx.out, if_neg he, HKK.out]
          have HS := Lib.hid hst
          clear he hst
          go_wp2_with (at_builtin; refine wpList_append_row rfl (.tmp 27) (.tmp 33) 44 rfl w (hbV.alloc hbV.size _) Try.underlying44 info_str rfl (by decide) _ K.length (K.map Str) rfl (hoV.alloc _) (some ⟨V.heap.size, 0, none⟩) 1 1 [.string ⟨q.1.toArray⟩] rfl (rc_new V _ _ _) rfl (one_str _) (by unfold maxLen; omega) (by omega) ?_; intro v3 w3 hown3 hb3; have H3 := Lib.hid (And.intro hown3 hb3); clear hown3 hb3)
          go_roundw
          case rel => exact ⟨k' + 1 + 1, by omega, by go_num, Lib.hid ⟨by rw [HS.out, List.map_append, List.length_append]; exact H3.out.1, H3.out.2⟩⟩
          case measure => simp [intOf]; omega
    · obtain rfl : k = n := by omega
      have hfull : ls.take k = ls := List.take_of_length_le (by rw [Hl.out]; exact Nat.le_refl _)
      have hown := HO.out.1
      rw [hfull] at hown
      obtain ⟨A2, c2, e2, -, -, -⟩ := own_formK hown
      subst e2
      have HR := Lib.hid (And.intro hown HO.out.2)
      clear hfull hown
      go_wp2
      go_ret
      exact ⟨A2, c2, rfl, HR.out.1, HR.out.2⟩
end Go.Proofs.Ytkfpnilbjjkhgaa
