/-
  THE WALKS of slices.BinarySearchFunc at posts, Run.From and its iterator, slices.Collect, Run.Of.
-/
import Derived.Test.YtkfpnilbjjkhgaaRnI
namespace Go.Proofs.Ytkfpnilbjjkhgaa
open Go.RowKit Go.Lib Go.Sort Go.Shelf
attribute [local go_sem] Oper.semAt_some

theorem below_grow (w : World) (k : Nat) (os : Array Obj) : Below w.heap.size w (grow (w.drewN k) os) :=
  ⟨rfl, rfl, rfl, by simp [grow, World.drewN], fun j hj => heap_grow_old (w.drewN k) os hj⟩
theorem cmp_below (p q : Po) (W : World) : Calls Try.prog 23 #[PV p, PV q] W fun e w' => e = .returned (.int .i64 (cmpP p q)) ∧ Below W.heap.size W w' :=
  (cmp_any p q W).mono fun e w' ⟨h1, k, os, h2⟩ => ⟨h1, by rw [h2]; exact below_grow W k os⟩
theorem insAt_gt {l : List Po} (ha : Asc l) {p x : Po} {i : Nat} (hx : l[i]? = some x) (h : ltP x p = true) : i < insAt l p := by
  rcases Nat.lt_or_ge i (insAt l p) with h1 | h1
  · exact h1
  · have hm : x ∈ l.drop (insAt l p) := List.mem_iff_getElem?.2 ⟨i - insAt l p, by rw [List.getElem?_drop, show insAt l p + (i - insAt l p) = i by omega]; exact hx⟩
    have := asc_drop_ge ha hm
    rw [h] at this; cases this
theorem insAt_nlt {l : List Po} {p x : Po} {i : Nat} (hx : l[i]? = some x) (h : ltP x p = false) : insAt l p ≤ i := by
  rcases Nat.lt_or_ge i (insAt l p) with h1 | h1
  · have := insAt_lt h1 hx
    rw [h] at this; cases this
  · exact h1
theorem exec_lss_int {P : Program} {o : Oper} {a : Act} {x y : Operand} {t t2 : TypeId} (ho : o.op = .binOp .lss t x y t2) (p q : Int) (hx : a.eval x = .int .i64 p) (hy : a.eval y = .int .i64 q) (u : World) :
    (execOp a.eval o).run P u = .ok (.value (.bool (decide (p < q)))) u := by
  unfold execOp
  simp only [ho, hx, hy]
  go_simp
def FoundPost (i : Nat) (w : World) (e : Ending) (w' : World) : Prop := ∃ f : Bool, e = .returned (.tuple #[.int .i64 i, .bool f]) ∧ Below w.heap.size w w'
set_option maxRecDepth 100000 in
set_option maxHeartbeats 1000000 in
theorem bsearch_any (w : World) (A : Option Addr) (n c : Nat) (ls : List Po) (h : RP w A n ls) (hn : n ≤ 1000000) (ha : Asc ls) (t : Po) :
    Calls Try.prog 43 #[.slice A n c, PV t, .func (.func 23) #[] #[]] w (FoundPost (insAt ls t) w) := by
  have H := Lib.hid h
  have Ha := Lib.hid ha
  have hle := insAt_le ls t
  rw [h.1] at hle
  clear h ha
  unfold PV
  go_enter Try.func43, Try.ntmps43
  go_wp2_with fail
  have hb0 : Below w.heap.size w (w.alloc (.cells (encP t).toArray 31)) := (Below.refl _ _).alloc (Nat.le_refl _) _
  have ht0 : (w.alloc (.cells (encP t).toArray 31)).rangeAt w.heap.size 0 (encP t) := rangeAt_at _ _ _ _ _ rfl
  have Hs : Hid ((w.alloc (.cells (encP t).toArray 31)).heap.size = w.heap.size + 1) := Lib.hid (by simp)
  obtain ⟨S, hS⟩ : ∃ S, S = insAt ls t := ⟨_, rfl⟩
  rw [← hS] at hle ⊢
  have HS := Lib.hid hS
  clear hS
  go_loopw [9, 10] (fun vi vj wr => ∃ i j : Nat, i ≤ S ∧ S ≤ j ∧ j ≤ n ∧ vi = .int .i64 (i : Int) ∧ vj = .int .i64 (j : Int) ∧ Hid (Below w.heap.size w wr ∧ wr.rangeAt w.heap.size 0 (encP t))) (fun vi vj _ => (intOf vj).toNat - (intOf vi).toNat)
  case atStart => exact ⟨0, n, by omega, hle, Nat.le_refl _, rfl, rfl, Lib.hid ⟨hb0, ht0⟩⟩
  case round =>
    obtain ⟨i, j, hi, hj, hjn, rfl, rfl, HW⟩ := hrel
    clear hb0 ht0
    by_cases hij : i < j
    · go_wp2_with fail
      obtain ⟨M, hM⟩ : ∃ M : Nat, ((i : Int) + (j : Int)) / 2 = (M : Int) := ⟨(i + j) / 2, by omega⟩
      rw [hM]
      have hM1 : i ≤ M := by omega
      have hM2 : M < j := by omega
      have hM3 : M < n := by omega
      clear hM
      obtain ⟨b1, o1, p, rfl, hp, hr1, -, -⟩ := (H.out.below HW.out.1).at_ (i := M) (by omega)
      have hr2 := HW.out.2
      obtain ⟨B, hB⟩ : ∃ B, B = ltP p t := ⟨_, rfl⟩
      have HB := Lib.hid hB
      have Hp := Lib.hid hp
      clear hB hp
      refine wp_region_quietB (by kernel_rfl) (by kernel_rfl) (fun hne => ?_)
      repeat (first
        | ((with_reducible show wpQuiet _ _ _ _ (⟨_, Op.load 31 (.tmp 27), _, _, _, _⟩ :: _) _); refine wpQ_loadB rfl _ _ rfl b1 (o1 + M * 2) rfl (encP p) _ hr1 Try.underlying31 rfl (info_post p) ?_; simp only [Act.put, List.setIfInBounds_toArray, List.set_cons_zero, List.set_cons_succ])
        | ((with_reducible show wpQuiet _ _ _ _ (⟨_, Op.load 31 (.tmp 4), _, _, _, _⟩ :: _) _); refine wpQ_loadB rfl _ _ rfl w.heap.size 0 rfl (encP t) _ hr2 Try.underlying31 rfl (info_post t) ?_; simp only [Act.put, List.setIfInBounds_toArray, List.set_cons_zero, List.set_cons_succ])
        | ((with_reducible show wpQuiet _ _ _ _ (⟨_, Op.call _, _, _, _, _⟩ :: _) _); refine wpQ_callB rfl 23 #[PV p, PV t] (fun u => by go_simp; exact ⟨rfl, rfl⟩) (.int .i64 (cmpP p t)) (fun u _ => cmp_below p t u) ?_; simp only [Act.put, List.setIfInBounds_toArray, List.set_cons_zero, List.set_cons_succ])
        | ((with_reducible show wpQuiet _ _ _ _ (⟨_, Op.binOp .lss _ (.tmp 30) _ _, _, _, _, _⟩ :: _) _); refine wpQ_val rfl (.bool B) (fun u _ => (exec_lss_int rfl _ _ rfl rfl u).trans (by rw [HB.out]; rfl)) ?_; simp only [Act.put, List.setIfInBounds_toArray, List.set_cons_zero, List.set_cons_succ])
        | go_big_quiet_step (fail))
      refine wpQuiet_nil ?_
      intro u hu
      have HW2 := Lib.hid (show Below w.heap.size w u ∧ u.rangeAt w.heap.size 0 (encP t) from ⟨HW.out.1.trans (hu.mono HW.out.1.size), rangeAt_below' hr2 hu⟩)
      clear hr1 hr2 hu
      cases B with
      | true =>
        have h1 := insAt_gt Ha.out Hp.out HB.out.symm
        rw [← HS.out] at h1
        go_wp2
        go_roundw
        case rel => exact ⟨M + 1, j, by omega, hj, hjn, by go_num, rfl, HW2⟩
        case measure => simp [intOf]; omega
      | false =>
        have h1 := insAt_nlt Hp.out HB.out.symm
        rw [← HS.out] at h1
        go_wp2
        go_roundw
        case rel => exact ⟨i, M, hi, h1, by omega, rfl, rfl, HW2⟩
        case measure => simp [intOf]; omega
    · obtain rfl : i = j := by omega
      obtain rfl : i = S := by omega
      by_cases hin : i < n
      · obtain ⟨b1, o1, p, rfl, hp, hr1, -, -⟩ := (H.out.below HW.out.1).at_ (i := i) hin
        have hr2 := HW.out.2
        clear hp
        go_wp2_with fail
        refine wp_region_quietB (by kernel_rfl) (by kernel_rfl) (fun hne => ?_)
        repeat (first
          | ((with_reducible show wpQuiet _ _ _ _ (⟨_, Op.load 31 (.tmp 43), _, _, _, _⟩ :: _) _); refine wpQ_loadB rfl _ _ rfl b1 (o1 + i * 2) rfl (encP p) _ hr1 Try.underlying31 rfl (info_post p) ?_; simp only [Act.put, List.setIfInBounds_toArray, List.set_cons_zero, List.set_cons_succ])
          | ((with_reducible show wpQuiet _ _ _ _ (⟨_, Op.load 31 (.tmp 4), _, _, _, _⟩ :: _) _); refine wpQ_loadB rfl _ _ rfl w.heap.size 0 rfl (encP t) _ hr2 Try.underlying31 rfl (info_post t) ?_; simp only [Act.put, List.setIfInBounds_toArray, List.set_cons_zero, List.set_cons_succ])
          | ((with_reducible show wpQuiet _ _ _ _ (⟨_, Op.call _, _, _, _, _⟩ :: _) _); refine wpQ_callB rfl 23 #[PV p, PV t] (fun u => by go_simp; exact ⟨rfl, rfl⟩) (.int .i64 (cmpP p t)) (fun u _ => cmp_below p t u) ?_; simp only [Act.put, List.setIfInBounds_toArray, List.set_cons_zero, List.set_cons_succ])
          | go_big_quiet_step (fail))
        refine wpQuiet_nil ?_
        intro u hu
        have HW2 := Lib.hid (HW.out.1.trans (hu.mono HW.out.1.size))
        clear hr1 hr2 hu
        go_wp2
        go_ret2
        exact ⟨cmpP p t == 0, by rw [← HS.out]; rfl, HW2.out⟩
      · go_wp2_with fail
        refine wp_region_quietB (by kernel_rfl) (by kernel_rfl) (fun hne => ?_)
        repeat (go_big_quiet_step (fail))
        refine wpQuiet_nil ?_
        intro u hu
        have HW2 := Lib.hid (HW.out.1.trans (hu.mono HW.out.1.size))
        clear hu
        go_wp2
        go_ret2
        exact ⟨false, by rw [← HS.out]; rfl, HW2.out⟩
end Go.Proofs.Ytkfpnilbjjkhgaa
