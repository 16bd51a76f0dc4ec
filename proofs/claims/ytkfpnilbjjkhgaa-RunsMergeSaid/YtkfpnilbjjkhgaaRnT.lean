/-
  THE WALK of cachetlaw19.is, where it says yes.
-/
import Derived.Test.YtkfpnilbjjkhgaaRnS
namespace Go.Proofs.Ytkfpnilbjjkhgaa
open Go.RowKit Go.Lib Go.Sort Go.Shelf
attribute [local go_sem] Oper.semAt_some

theorem own_rv {w : World} {B : Nat} {e : TypeId} {A : Option Addr} {n c : Nat} {vs : List Value} (h : w.ownsRow B e 1 (.slice A n c) n vs) : RV w A n vs := by
  obtain ⟨A0, c0, e0, -, -, hr, -⟩ := own_form h
  cases e0
  exact hr
/-- Between two rounds: how many have been looked at. -/
structure IsI (W3 : World) (b5 k : Nat) (W : World) : Prop where
  below : Below W3.heap.size W3 W
  box : W.heap[b5]? = some (.cells #[.int .i64 (k : Int)] 3 (0, 0))
theorem IsI.stable {w W W' : World} {b k : Nat} (h : IsI w b k W) (hb : Below W.heap.size W W') : IsI w b k W' := ⟨h.1.trans (hb.mono h.1.size), heap_below h.2 hb⟩
theorem IsI.abides {w W : World} {b k l : Nat} {o : Obj} (h : IsI w b k W) (o' : Obj) (hl : W.heap[l]? = some o) (ho : o.isCells = false) (hlt : w.heap.size ≤ l) : IsI w b k (W.putObj l o') :=
  ⟨below_putObj W l o' h.1 hlt h.1.size, heap_putObj h.2 o' hl ho⟩
set_option maxRecDepth 100000 in
set_option maxHeartbeats 4000000 in
theorem is_yes (w : World) (A A' : Option Addr) (n c c' : Nat) (ls : List Po) (h : RP w A n ls) (h' : RP w A' n ls) (hn : n ≤ 1000000) :
    Calls Try.prog 12 #[.agg #[.slice A n c], .slice A' n c'] w fun e w' => e = .returned (.bool true) ∧ Below w.heap.size w w' := by
  have H := Lib.hid h
  have H' := Lib.hid h'
  clear h h'
  refine (callsIn_wide (n := 9)).1 ?_
  refine callsIn_of_wp_marks Try.func12 rfl trivial ?_ rfl
  rw [wpIn_wide]
  simp only [Try.ntmps12, List.size_toArray, List.length_cons, List.length_nil, Nat.reduceAdd, Nat.reduceSub, Array.replicate_succ, Array.replicate_zero, List.push_toArray, List.append_toArray, List.nil_append, List.cons_append]
  go_wp2_with fail
  have hb3 : Below w.heap.size w (((w.alloc (.cells #[.slice A n c] 28)).alloc (.cells #[.slice A' n c'] 22)).alloc (.cells #[.bool false] 4)) :=
    (((Below.refl _ _).alloc (Nat.le_refl _) _).alloc (by simp) _).alloc (by simp; omega) _
  obtain ⟨W3, hW3⟩ : ∃ W3, W3 = ((w.alloc (.cells #[.slice A n c] 28)).alloc (.cells #[.slice A' n c'] 22)).alloc (.cells #[.bool false] 4) := ⟨_, rfl⟩
  rw [← hW3] at hb3 ⊢
  have k0 : W3.heap[w.heap.size]? = some (.cells #[.slice A n c] 28 (0, 0)) := by
    rw [hW3]
    exact (Below.heap_alloc _ _ _ (by simp; omega)).trans ((Below.heap_alloc _ _ _ (by simp)).trans (heap_alloc_new w _))
  have k1 : W3.heap[w.heap.size + 1]? = some (.cells #[.slice A' n c'] 22 (0, 0)) := by
    rw [hW3]
    exact (Below.heap_alloc _ _ _ (by simp)).trans (heap_alloc_at _ _ _ (by simp))
  have k2 : W3.heap[w.heap.size + 2]? = some (.cells #[.bool false] 4 (0, 0)) := by
    rw [hW3]
    exact heap_alloc_at _ _ _ (by simp)
  have hs3 : W3.heap.size = w.heap.size + 3 := by rw [hW3]; simp
  rw [show w.heap.size + 1 + 1 = w.heap.size + 2 from rfl]
  have HB3 := Lib.hid hb3
  have HK := Lib.hid (And.intro k0 (And.intro k1 k2))
  have Hs3 := Lib.hid hs3
  -- what a world above this one says
  have up : ∀ u, Below W3.heap.size W3 u → u.rangeAt w.heap.size 0 [.slice A n c] ∧ u.cell? ⟨w.heap.size + 1, 0, none⟩ = some (.slice A' n c') := fun u hu =>
    ⟨rangeAt_blk (heap_below HK.out.1 hu), by rw [cell_of_row _ _ _ _ _ _ (heap_below HK.out.2.1 hu)]; rfl⟩
  have Up := Lib.hid up
  clear hW3 hb3 k0 k1 k2 hs3 up
  refine wp_region_noPanic ?_
  refine wp_region_movesJ [0, 1, 2, 3, 4, 5, 6, 8] (fun u => Below W3.heap.size W3 u) (fun u u' => Below u.heap.size u u') (fun u => Below.refl _ _) (fun h k => h.trans (k.mono h.size)) (by kernel_rfl) (by kernel_rfl) (by kernel_rfl) (below_drewN (Below.refl _ _) 1) (fun _ _ _ _ _ h => h) ?_
  simp only [List.filterMap, List.getElem?_cons_zero, List.getElem?_cons_succ]
  refine wpMH_loadW (fun u => Below.refl _ _) (by rfl) _ _ rfl w.heap.size 0 rfl [.slice A n c] _ (fun u hu => (Up.out u hu).1) Try.underlying28 rfl (info_run _) ?_
  simp only [Act.put, List.setIfInBounds_toArray, List.set_cons_zero, List.set_cons_succ]
  refine wpMH_callW (by rfl) 16 _ _ rfl (enters_of Try.func16 (by kernel_rfl) rfl) [.agg #[.slice A n c]] rfl (.int .i64 (n : Int)) (fun u hu => (runLen_any u A n c).mono fun e w' ⟨h1, h2⟩ => ⟨h1, by rw [h2]; exact hu.alloc hu.size _, by rw [h2]; exact (Below.refl _ _).alloc (Nat.le_refl _) _⟩) ?_
  simp only [Act.put, List.setIfInBounds_toArray, List.set_cons_zero, List.set_cons_succ]
  refine wpMH_pureW (fun u => Below.refl _ _) (by rfl) (.slice A' n c') (fun u hu => by have hc := (Up.out u hu).2; go_simp) ?_
  simp only [Act.put, List.setIfInBounds_toArray, List.set_cons_zero, List.set_cons_succ]
  refine wpMH_pureW (fun u => Below.refl _ _) (by rfl) (.int .i64 (n : Int)) (fun u hu => by go_simp) ?_
  simp only [Act.put, List.setIfInBounds_toArray, List.set_cons_zero, List.set_cons_succ]
  refine wpMH_pureW (fun u => Below.refl _ _) (by rfl) (.bool false) (fun u hu => by go_simp) ?_
  simp only [Act.put, List.setIfInBounds_toArray, List.set_cons_zero, List.set_cons_succ]
  refine wpMH_moveW (fun u => Below.refl _ _) (by rfl) _ rfl _ rfl ?_
  simp only [Act.put, List.setIfInBounds_toArray, List.set_cons_zero, List.set_cons_succ]
  refine wpMH_loadW (fun u => Below.refl _ _) (by rfl) _ _ rfl w.heap.size 0 rfl [.slice A n c] _ (fun u hu => (Up.out u hu).1) Try.underlying28 rfl (info_run _) ?_
  simp only [Act.put, List.setIfInBounds_toArray, List.set_cons_zero, List.set_cons_succ]
  refine wpMH_pureW (fun u => Below.refl _ _) (by rfl) (.slice A' n c') (fun u hu => by have hc := (Up.out u hu).2; go_simp) ?_
  simp only [Act.put, List.setIfInBounds_toArray, List.set_cons_zero, List.set_cons_succ]
  refine wpMH_nil ?_
  refine wpAnyM_one 7 (by kernel_rfl) rfl ?_
  simp only [List.getElem_toArray, List.getElem_cons_succ, List.getElem_cons_zero]
  intro u1 hS1 hM1
  clear hM1
  go_wp2_with fail
  have hr1 : RP u1 A n ls := H.out.below (HB3.out.trans (hS1.mono HB3.out.size))
  refine (keys_any u1 A n c ls hr1 hn).mono ?_
  rintro e u2 ⟨Ak, ck, rfl, hk2, hb2⟩
  have H2 := Lib.hid (And.intro (Below.trans hS1 (hb2.mono hS1.size)) (own_rv hk2))
  clear hr1 hk2 hb2 hS1
  go_wp2_with fail
  refine ⟨H2.out.1, ?_⟩
  refine wpAnyM_one 9 (by kernel_rfl) rfl ?_
  simp only [List.getElem_toArray, List.getElem_cons_succ, List.getElem_cons_zero]
  intro u3 hS3 hM3
  have H3 := Lib.hid (And.intro hS3 (H2.out.2.below hM3))
  have hr3 : RP u3 A' n ls := H'.out.below (HB3.out.trans (hS3.mono HB3.out.size))
  clear hS3 hM3 H2
  go_wp2_with fail
  refine (refKeys_any u3 A' n c' ls hr3 hn).mono ?_
  rintro e u4 ⟨Aj, cj, rfl, hk4, hb4⟩
  have H4 := Lib.hid (And.intro (Below.trans H3.out.1 (hb4.mono H3.out.1.size)) (And.intro (H3.out.2.below hb4) (own_rv hk4)))
  clear hr3 hk4 hb4 H3
  go_wp2_with fail
  refine ⟨H4.out.1, ?_⟩
  refine wpAnyM_one 10 (by kernel_rfl) rfl ?_
  simp only [List.getElem_toArray, List.getElem_cons_succ, List.getElem_cons_zero]
  intro u5 hS5 hM5
  have hkl := keysF_le ls
  rw [H.out.1] at hkl
  have htx := texts_any u5 Ak Aj (keysF ls).length (keysF ls).length ck cj (keysF ls) (keysF ls) (H4.out.2.1.below hM5) (H4.out.2.2.below hM5) (by omega) (by omega)
  rw [decide_eq_true rfl] at htx
  have HTX := Lib.hid htx
  have HS5 := Lib.hid hS5
  clear hkl htx hS5 hM5 H4
  go_wp2_with fail
  refine HTX.out.mono ?_
  rintro e u6 ⟨rfl, q, rfl⟩
  have HS6 := Lib.hid (below_drewN HS5.out q)
  go_wp2_with fail
  refine ⟨HS6.out, ?_⟩
  refine wpAnyM_one 11 (by kernel_rfl) rfl ?_
  simp only [List.getElem_toArray, List.getElem_cons_succ, List.getElem_cons_zero]
  intro u7 hS7 hM7
  have HS7 := Lib.hid hS7
  clear hM7 hS7
  go_wp2_with fail
  refine ⟨HS7.out, ?_⟩
  refine wpAnyM_one 12 (by kernel_rfl) rfl ?_
  simp only [List.getElem_toArray, List.getElem_cons_succ, List.getElem_cons_zero]
  intro u8 hS8 hM8
  have HS8 := Lib.hid hS8
  clear hM8 hS8 HS7 HS6 HTX HS5
  go_wp2_with fail
  refine ⟨HS8.out, ?_⟩
  refine wpAnyM_nil (by kernel_rfl) ?_
  intro u9 hS9 hM9
  clear hM9 HS8
  refine NoPanic.normal ?_
  -- what is read, and what a truth value written leaves
  have early : ∀ (W : World) (v : Bool), Below W3.heap.size W3 W → W.cell? ⟨w.heap.size + 2, 0, none⟩ = some (.bool false) ∧ W.frozen? ⟨w.heap.size + 2, 0, none⟩ = false ∧ w.heap.size + 2 < W.heap.size ∧
      (W.setCell ⟨w.heap.size + 2, 0, none⟩ (.bool v)).cell? ⟨w.heap.size + 2, 0, none⟩ = some (.bool v) ∧ Below w.heap.size w (W.setCell ⟨w.heap.size + 2, 0, none⟩ (.bool v)) := by
    intro W v hb
    have r := heap_below HK.out.2.2 hb
    refine ⟨by rw [cell_of_row _ _ _ _ _ _ r]; rfl, frozen_blk r 0, (Array.getElem?_eq_some_iff.1 r).1, ?_, (HB3.out.trans (hb.mono HB3.out.size)).setCell (p := ⟨w.heap.size + 2, 0, none⟩) (by simp) _⟩
    have r8 : (W.setCell ⟨w.heap.size + 2, 0, none⟩ (.bool v)).heap[w.heap.size + 2]? = some (.cells #[.bool v] 4 (0, 0)) := by
      rw [heap_setCell_same _ _ 0 _ _ _ r]; rfl
    rw [cell_of_row _ _ _ _ _ _ r8]; rfl
  have Early := Lib.hid early
  clear early
  have g0 : u9.cell? ⟨w.heap.size, 0, none⟩ = some (.slice A n c) := by rw [cell_of_row _ _ _ _ _ _ (heap_below HK.out.1 hS9)]; rfl
  have g1 := (Up.out u9 hS9).2
  have hbl : Below W3.heap.size W3 (u9.alloc (.cells #[.slice A n c] 28)) := hS9.alloc hS9.size _
  obtain ⟨e1, e2, e3, e4, e5⟩ := Early.out _ true hbl
  by_cases hn0 : n = 0
  · subst hn0
    have HE := Lib.hid (And.intro e4 e5)
    clear e4 e5
    go_wp2_with fail
    refine (runLen_any u9 A 0 c).mono ?_
    rintro e u10 ⟨rfl, rfl⟩
    go_wp2_with fail
    exact ⟨_, results_cell_bool rfl _ _ _ (w.heap.size + 2) (.bool true) rfl HE.out.1 Try.underlying4, rfl, HE.out.2⟩
  · have hnp : 0 < n := by omega
    have hz : ((n : Int) == 0) = false := by rw [beq_eq_false_iff_ne]; omega
    have hlt0 : w.heap.size < u9.heap.size := World.block_lt_of_cell? _ _ g0
    clear e1 e2 e3 e4 e5
    go_wp2_with fail
    refine (runLen_any u9 A n c).mono ?_
    rintro e u10 ⟨rfl, rfl⟩
    go_wp2_with fail
    refine (all_any _ A n c).mono ?_
    rintro e W0 ⟨rfl, hW0⟩
    have hb0 : Below W3.heap.size W3 W0 := by
      rw [← hW0]
      exact (((hS9.alloc hS9.size _).alloc (by have := hS9.size; simp; omega) _).alloc (by have := hS9.size; simp; omega) _).alloc (by have := hS9.size; simp; omega) _
    have hs0 : W0.heap.size = u9.heap.size + 4 := by rw [← hW0]; simp
    have hc0 : W0.heap[u9.heap.size + 1]? = some (.cells #[.int .i64 0] 3 (0, 0)) := by
      rw [← hW0]
      exact (Below.heap_alloc _ _ _ (by simp)).trans ((Below.heap_alloc _ _ _ (by simp)).trans (heap_alloc_at _ _ _ (by simp)))
    have hv0 : W0.heap[u9.heap.size + 3]? = some (.cells #[.slice A n c] 25 (0, 0)) := by
      rw [← hW0]
      exact heap_alloc_at _ _ _ (by simp)
    have hv1 : W0.cell? ⟨u9.heap.size + 3, 0, none⟩ = some (.slice A n c) := by rw [cell_of_row _ _ _ _ _ _ hv0]; rfl
    have e3 : ((u9.alloc (.cells #[.slice A n c] 28)).alloc (.cells #[.int .i64 0] 3)).heap.size + 1 = u9.heap.size + 3 := by simp
    rw [e3]
    obtain ⟨b5, hb5⟩ : ∃ b5, b5 = u9.heap.size + 1 := ⟨_, rfl⟩
    have hb5' : W3.heap.size ≤ b5 := by have := hS9.size; omega
    have hbv : b5 + 2 = u9.heap.size + 3 := by omega
    rw [← hb5] at hc0 ⊢
    rw [← hbv] at hv1 ⊢
    have hs0' : W0.heap.size = b5 + 3 := by omega
    have Hs0 := Lib.hid hs0'
    clear hW0 hs0 e3 hv0 hs0' g0 g1 hz hlt0 hbl hb5 hbv
    go_wp2_with fail
    refine wp_rangeIterB (n := 9) rfl (enters_of Try.func59 (by kernel_rfl) rfl) (values_iter (b5 + 2) A n c ls hn) (fun k args W h => by obtain ⟨p, _, rfl⟩ := h; rfl)
      (fun h1 h2 h => h2 (h1 h)) (fun W l o o' _ hl ho h => h.putObj o' hl ho) (fun k args W l o o' h _ _ _ => h)
      (fun k W => IsI W3 b5 k W) (fun _ _ _ => False)
      (fun k W W' h hb => h.stable hb) (fun c k W W' h hb => h)
      (fun k W l o o' h hl ho hoc => h.abides o' ho hoc (Nat.le_trans hb0.size hl)) (fun c k W l o o' h _ _ _ => h)
      (fun W hb => ⟨(hb.cell (p := ⟨b5 + 2, 0, none⟩) (by have := Hs0.out; show b5 + 2 < W0.heap.size; omega)).trans hv1, H.out.below (HB3.out.trans ((hb0.trans (hb.mono hb0.size)).mono HB3.out.size))⟩)
      ⟨hb0, hc0⟩
      (fun k args bx W => KBx ls k args bx W)
      (fun args bx T => (T.setIfInBounds 25 (args.getD 0 undef)).setIfInBounds 6 (.pointer (some ⟨bx, 0, none⟩)))
      (fun W W' hb h => h.below hb) (fun k args W W' h hb => h) (fun k args bx W l o o' h _ hl ho => by obtain ⟨p, h1, h2, h3⟩ := h; exact ⟨p, h1, h2, heap_putObj h3 o' hl ho⟩)
      ?assign ?body ?done ?stop
    case assign =>
      rintro l k args W K hk hi ⟨p, hp, rfl⟩ hK
      have hk2 := hK W.heap.size (W.alloc (.cells (encP p).toArray 31)) ((Below.refl _ _).alloc (Nat.le_refl _) _) ⟨p, hp, rfl, heap_alloc_new W _⟩
      have HK9 := Lib.hid hk2
      clear hk2 hK hi hp
      simp only [PV]
      gi_wp2
      have h5 := HK9.out
      simpa [PV, encP] using h5
    case body =>
      rintro l k args bx W hk ⟨hbw, hbox⟩ - ⟨p, hp, rfl, hbx⟩
      obtain ⟨q1, q2⟩ := Up.out W hbw
      obtain ⟨b', o', p', rfl, hp2, -, c0, c1⟩ := (H'.out.below (HB3.out.trans (hbw.mono HB3.out.size))).at_ hk
      obtain rfl : p = p' := Option.some.inj (hp.symm.trans hp2)
      have hcell : W.cell? ⟨b5, 0, none⟩ = some (.int .i64 (k : Int)) := by rw [cell_of_row _ _ _ _ _ _ hbox]; rfl
      have hfr := frozen_blk hbox 0
      have hp0 : W.cell? ⟨bx, 0, none⟩ = some (.string ⟨p.1.toArray⟩) := by rw [cell_of_row _ _ _ _ _ _ hbx]; rfl
      have hp1 : W.cell? ⟨bx, 1, none⟩ = some (.int .i64 p.2) := by rw [cell_of_row _ _ _ _ _ _ hbx]; rfl
      have hd : decide (n ≤ k) = false := decide_eq_false (by omega)
      have hlt5 := (Array.getElem?_eq_some_iff.1 hbox).1
      have Hbox := Lib.hid hbox
      have Hbw := Lib.hid hbw
      simp only [show ∀ a : Value, #[a].getD 0 undef = a from fun _ => rfl, List.setIfInBounds_toArray, List.set_cons_succ, List.set_cons_zero]
      clear hp hp2 hbx hbox hbw q1
      gi_wp2_with fail
      refine wpIn_region_quiet_round (C := fun u => ∃ m, u = W.drewN m) (by kernel_rfl) (by kernel_rfl) (by kernel_rfl) ⟨1, rfl⟩ ?_
      simp only []
      repeat (go_big_quiet_step (fail))
      refine wpQuiet_nil ?_
      rintro _ ⟨m, rfl⟩
      have hb1 : Below W.heap.size W (W.drewN m) := below_drewN (Below.refl _ _) m
      have hbx2 := heap_below Hbox.out hb1
      have Hbx2 := Lib.hid hbx2
      have Hb1 := Lib.hid hb1
      clear hbx2 hb1 hd
      gi_wp2
      refine ⟨(keeps_drewN W m).trans (KeepsOthers.setCell _ _ _), fun _ => H.out.below ((HB3.out.trans (Hbw.out.mono HB3.out.size)).trans (((below_drewN (Below.refl _ _) m).setCell (p := ⟨b5, 0, none⟩) (by have := HB3.out.size; have := Hbw.out.size; show w.heap.size ≤ b5; omega) _))), ?_, ?_⟩
      · exact (Hbw.out.trans (Hb1.out.mono Hbw.out.size)).setCell (p := ⟨b5, 0, none⟩) hb5' _
      · rw [heap_setCell_same _ b5 0 _ _ _ Hbx2.out]
        rfl
    case done =>
      rintro D W hD ⟨hbw, hbox⟩ hK
      obtain ⟨q1, q2⟩ := Up.out W hbw
      have hcell : W.cell? ⟨b5, 0, none⟩ = some (.int .i64 (n : Int)) := by rw [cell_of_row _ _ _ _ _ _ hbox]; rfl
      obtain ⟨e1, e2, e3, e4, e5⟩ := Early.out W true hbw
      have HE := Lib.hid (And.intro e4 e5)
      clear hbox hbw q1 e4 e5
      simp only [Exit.inBlock, Exit.then]
      go_wp2
      have hK2 := (KeepsOthers.setCell W ⟨w.heap.size + 2, 0, none⟩ (.bool true)).same D _ hK rfl
      refine ⟨by simp, .inl ⟨_, _, rfl, run_takeDeferred hK2, ?_⟩⟩
      exact ⟨_, results_cell_bool rfl _ _ _ (w.heap.size + 2) (.bool true) rfl (cell_putObj HE.out.1 _ hK2 rfl) Try.underlying4, rfl, below_putObj _ D _ HE.out.2 (by have := Hs0.out; have := HB3.out.size; omega) HE.out.2.size⟩
    case stop =>
      intro D c k W _ _ h _
      exact h.elim
end Go.Proofs.Ytkfpnilbjjkhgaa
