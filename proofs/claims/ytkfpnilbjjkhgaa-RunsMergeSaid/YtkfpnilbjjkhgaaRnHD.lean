/-
  THE WALKS of container/heap's up (from 0), Fix (at 0), Init, Pop, at runs.heads.
-/
import Derived.Test.YtkfpnilbjjkhgaaRnHC
namespace Go.Proofs.Ytkfpnilbjjkhgaa
open Go.RowKit Go.Lib Go.Sort

theorem up_zero (w : World) (v : Value) : Calls Try.prog 45 #[v, .int .i64 0] w fun e w' => e = .returned (.tuple #[]) ∧ w = w' := by
  go_enter Try.func45, Try.ntmps45
  go_wp2
  refine wp_loop_rounds 1 ?_
  repeat (rw [rounds_succ]; go_wp2)
  go_end0
  exact ⟨rfl, rfl⟩
/-- What heap's functions leave: the heap; all else as it was. -/
structure HpPost (w0 : World) (hb g L c : Nat) (ys : List (Hx Value)) (w w' : World) : Prop where
  heap : HeapW w0 hb g L c ys w'
  grown : w.grownBy w' (some g)
set_option maxRecDepth 100000 in
theorem fix_any (w0 w : World) (hb g L c : Nat) (xs : List (Hx Value)) (h : HeapW w0 hb g L c xs w) (hL : L ≤ 1000000) :
    Calls Try.prog 34 #[.iface 66 (.pointer (some ⟨hb, 0, none⟩)), .int .i64 0] w fun e w' => e = .returned (.tuple #[]) ∧ HpPost w0 hb g L c (fixF xs) w w' := by
  have hml := meth_len w hb _ h.cellb
  have hdn := down_any w0 w hb g L c 0 L xs h (by omega) (Nat.le_refl _) hL
  have hl := h.len
  have HL := Lib.hid hl
  have HD := Lib.hid hdn
  have Hh := Lib.hid h
  clear hdn hl h
  go_enter Try.func34, Try.ntmps34
  go_wp2_with fail
  refine (heads_len w _ L c).mono ?_
  rintro e w1 ⟨rfl, rfl⟩
  go_wp2_with fail
  refine HD.out.mono ?_
  rintro e w2 ⟨rfl, hw2, hg2⟩
  have HR : Hid (HpPost w0 hb g L c (fixF xs) w w2) := Lib.hid ⟨by unfold fixF; rw [HL.out]; exact hw2, hg2⟩
  obtain ⟨B, hB⟩ : ∃ B, B = decide (0 < (dnF L xs 0 L).2) := ⟨_, rfl⟩
  rw [← hB]
  clear hw2 hg2 hB hml HD
  cases B with
  | true =>
    go_wp2_with fail
    go_end0
    exact ⟨rfl, HR.out⟩
  | false =>
    go_wp2_with fail
    refine (up_zero w2 _).mono ?_
    rintro e w3 ⟨rfl, rfl⟩
    go_wp2_with fail
    go_end0
    exact ⟨rfl, HR.out⟩
set_option maxRecDepth 100000 in
set_option maxHeartbeats 1000000 in
theorem init_any (w0 w : World) (hb g L c : Nat) (xs : List (Hx Value)) (h : HeapW w0 hb g L c xs w) (hL : L ≤ 1000000) :
    Calls Try.prog 31 #[.iface 66 (.pointer (some ⟨hb, 0, none⟩))] w fun e w' => e = .returned (.tuple #[]) ∧ HpPost w0 hb g L c (initF (L / 2) xs) w w' := by
  have hml := meth_len w hb _ h.cellb
  obtain ⟨M, hM, hM2⟩ : ∃ M : Nat, (L : Int) / 2 = (M : Int) ∧ M = L / 2 := ⟨L / 2, by omega, rfl⟩
  obtain ⟨R, hR⟩ : ∃ R, R = initF (L / 2) xs := ⟨_, rfl⟩
  have HH : Hid (HeapW w0 hb g L c xs w ∧ initF M xs = R ∧ w.grownBy w (some g)) := Lib.hid ⟨h, by rw [hM2, hR], grownBy_refl _ _⟩
  have hM6 : M ≤ 1000000 := by omega
  rw [← hR]
  clear h hR hM2
  go_enter Try.func31, Try.ntmps31
  go_wp2_with fail
  refine (heads_len w _ L c).mono ?_
  rintro e w1 ⟨rfl, rfl⟩
  go_wp2_with fail
  clear hml
  go_loopw [3] (fun s wr => ∃ (k : Nat) (ys : List (Hx Value)), s = .int .i64 ((k : Int) - 1) ∧ k ≤ 1000000 ∧ Hid (HeapW w0 hb g L c ys wr ∧ initF k ys = R ∧ w.grownBy wr (some g))) (fun s _ => (intOf s + 1).toNat)
  case atStart => exact ⟨M, xs, rfl, hM6, HH⟩
  case round =>
    obtain ⟨k, ys, rfl, hk, HW⟩ := hrel
    clear hM
    cases k with
    | zero =>
      have HR : Hid (HpPost w0 hb g L c R w wr) := Lib.hid ⟨by have := HW.out.2.1; rw [← this]; exact HW.out.1, HW.out.2.2⟩
      rw [show (((0 : Nat) : Int) - 1) = -1 from rfl]
      go_wp2
      go_end0
      exact ⟨rfl, HR.out⟩
    | succ k =>
      rw [show (((k + 1 : Nat) : Int) - 1) = (k : Int) by omega]
      have hdn := down_any w0 wr hb g L c k L ys HW.out.1 (by omega) (Nat.le_refl _) hL
      have HD := Lib.hid hdn
      clear hdn
      go_wp2_with fail
      refine HD.out.mono ?_
      rintro e w2 ⟨rfl, hw2, hg2⟩
      have HN : Hid (HeapW w0 hb g L c (dnF L ys k L).1 w2 ∧ initF k (dnF L ys k L).1 = R ∧ w.grownBy w2 (some g)) := Lib.hid ⟨hw2, by
        have h1 := HW.out.2.1
        rw [initF, HW.out.1.len] at h1
        exact h1, HW.out.2.2.trans hg2⟩
      clear hw2 hg2 HD
      go_wp2_with fail
      go_roundw
      case rel => exact ⟨k, _, rfl, by omega, HN⟩
      case measure => first | (simp [intOf]; omega) | simp [intOf]
/-- What heap.Pop leaves: the heap, cut; all else but its row and its box as it was. -/
structure PopPost (w0 : World) (hb g L c : Nat) (ys : List (Hx Value)) (w w' : World) : Prop where
  heap : HeapW w0 hb g L c ys w'
  os : w'.os = w.os ∧ w'.tape = w.tape ∧ w'.output = w.output
  size : w.heap.size ≤ w'.heap.size
  block : ∀ k, k < w.heap.size → k ≠ g → k ≠ hb → w'.heap[k]? = w.heap[k]?
theorem popF_eq {xs : List (Hx Value)} {L : Nat} (h : xs.length = L + 1) : popF xs = (dnF L (swapH xs 0 L) 0 L).1.take L := by
  unfold popF
  rw [h]
  rfl
set_option maxRecDepth 100000 in
set_option maxHeartbeats 1000000 in
theorem pop_any (w0 w : World) (hb g L c : Nat) (xs : List (Hx Value)) (h : HeapW w0 hb g (L + 1) c xs w) (hL : L + 1 ≤ 1000000) (hLc : L + 1 ≤ c) :
    Calls Try.prog 33 #[.iface 66 (.pointer (some ⟨hb, 0, none⟩))] w fun e w' => (∃ v, e = .returned v) ∧ PopPost w0 hb g L c (popF xs) w w' := by
  have hml := meth_len w hb _ h.cellb
  have hms := meth_swap w hb _ h.cellb
  have hsw := swap_heap h (i := 0) (j := L) (by omega) (by omega)
  have hpf := popF_eq h.len
  have hhb := h.box
  have h1 : IntKind.i64.wrap (((L + 1 : Nat) : Int) - 1) = (L : Int) := by rw [IntWalk.i64_in _ (by omega)]; omega
  have HPF := Lib.hid hpf
  have HSW := Lib.hid hsw
  have Hh := Lib.hid h
  clear hsw hpf h hhb
  go_enter Try.func33, Try.ntmps33
  go_wp2_with fail
  refine (heads_len w _ (L + 1) c).mono ?_
  rintro e w1 ⟨rfl, rfl⟩
  go_wp2_with fail
  refine HSW.out.mono ?_
  rintro e w2 ⟨rfl, hw2, hg2⟩
  have hdn := down_any w0 w2 hb g (L + 1) c 0 L (swapH xs 0 L) hw2 (by omega) (by omega) hL
  have HD := Lib.hid hdn
  have Hg2 := Lib.hid hg2
  clear hdn hw2 hg2 hml hms HSW h1
  go_wp2_with fail
  refine HD.out.mono ?_
  rintro e w3 ⟨rfl, hw3, hg3⟩
  obtain ⟨ys, hys⟩ : ∃ ys, ys = (dnF L (swapH xs 0 L) 0 L).1 := ⟨_, rfl⟩
  obtain ⟨Bd, hBd⟩ : ∃ Bd, Bd = decide (0 < (dnF L (swapH xs 0 L) 0 L).2) := ⟨_, rfl⟩
  rw [← hys] at hw3
  rw [← hBd]
  have Hys := Lib.hid hys
  have hmp := meth_pop w3 hb
  obtain ⟨z, hz⟩ : ∃ z, ys[L]? = some z := ⟨_, List.getElem?_eq_getElem (by have := hw3.len; omega)⟩
  obtain ⟨cz, -, -, -⟩ := hw3.at_ hz
  have hpp := heads_pop w3 hb g L c z.1 hw3.cellb (frozen_blk hw3.box 0) cz hL hLc
  have HPP := Lib.hid hpp
  have H3 := Lib.hid (And.intro hw3 (Hg2.out.trans hg3))
  clear hys hBd hpp hw3 hg3 hz cz HD Hg2
  go_wp2_with fail
  refine HPP.out.mono ?_
  rintro e w4 ⟨rfl, hw4⟩
  have hne : hb ≠ g := fun e => own_notBox H3.out.1.own H3.out.1.box (by decide) (by rw [e]; rfl)
  have hP : PopPost w0 hb g L c (popF xs) w w4 := by
    rw [HPF.out, ← Hys.out, ← hw4]
    have hown := own_cut (k := L) H3.out.1.own (by omega)
    rw [Nat.mul_one] at hown
    refine ⟨⟨by rw [List.length_take, H3.out.1.len]; omega, ?_, ?_, H3.out.1.below.setCell (p := ⟨hb, 0, none⟩) H3.out.1.hbw _, fun x hx => H3.out.1.heads x (List.mem_of_mem_take hx), H3.out.1.hbw⟩,
      ⟨H3.out.2.os, H3.out.2.tape, H3.out.2.output⟩, by have := H3.out.2.size; simpa using this, fun k hk hkg hkb => (Below.heap_setCell w3 ⟨hb, 0, none⟩ _ k hkb).trans (H3.out.2.block k hk (by intro e; cases e; exact hkg rfl))⟩
    · rw [heap_setCell_same _ hb 0 _ _ _ H3.out.1.box]; rfl
    · rw [List.map_take]
      exact own_setBox hown H3.out.1.box (by decide) 0 _
  have HP := Lib.hid hP
  clear hP hw4 hmp HPP
  go_wp2_with fail
  go_ret
  exact ⟨⟨_, rfl⟩, HP.out⟩
end Go.Proofs.Ytkfpnilbjjkhgaa
