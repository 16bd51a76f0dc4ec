/-
  THE WALK of cachetlaw19.from.
-/
import Derived.Test.YtkfpnilbjjkhgaaRnW
import Derived.Test.YtkfpnilbjjkhgaaIterM
namespace Go.Proofs.Ytkfpnilbjjkhgaa
open Go.RowKit Go.Lib Go.Sort Go.Shelf
attribute [local go_sem] Oper.semAt_some

theorem most_num (z : Int) : ∃ M : Nat, wrap64 (1 + wrap64 ((IntKind.u64.wrap z).tmod 30)) = (M : Int) ∧ 1 ≤ M ∧ M ≤ 30 := by
  have h0 : 0 ≤ IntKind.u64.wrap z := by rw [IntKind.wrap_u64]; omega
  obtain ⟨u, hu⟩ : ∃ u : Nat, IntKind.u64.wrap z = (u : Int) := ⟨(IntKind.u64.wrap z).toNat, by omega⟩
  have h1 : (IntKind.u64.wrap z).tmod 30 = ((u % 30 : Nat) : Int) := by rw [hu]; rfl
  refine ⟨1 + u % 30, ?_, by omega, by omega⟩
  rw [h1, show wrap64 ((u % 30 : Nat) : Int) = ((u % 30 : Nat) : Int) by unfold wrap64; omega, show wrap64 (1 + ((u % 30 : Nat) : Int)) = 1 + ((u % 30 : Nat) : Int) by unfold wrap64; omega]
  omega
theorem own_far {w : World} {B : Nat} {e : TypeId} {s : Nat} {A : Option Addr} {n c k : Nat} {xs : List Value} (h : w.ownsRow B e s (.slice A n c) k xs) : ∀ ad, A = some ad → B ≤ ad.block := fun ad e => by
  subst e
  exact (h.lt ad.block rfl).1
theorem cell_far {W : World} {g i : Nat} {v : Value} {a : Addr} (h : a.block ≠ g) : (W.setCell ⟨g, i, none⟩ v).cell? a = W.cell? a := World.cell?_of_block (Below.heap_setCell W ⟨g, i, none⟩ v a.block h)
theorem RP.far {W : World} {A : Option Addr} {n : Nat} {ls : List Po} (h : RP W A n ls) {g : Nat} (hg : ∀ ad, A = some ad → ad.block ≠ g) (i : Nat) (v : Value) : RP (W.setCell ⟨g, i, none⟩ v) A n ls :=
  ⟨h.1, fun h0 => by
    obtain ⟨b, o, rfl, hr⟩ := h.2 h0
    exact ⟨b, o, rfl, fun j u hu => (cell_far (a := ⟨b, o + j, none⟩) (show b ≠ g from hg ⟨b, o, none⟩ rfl)).trans (hr j u hu)⟩⟩
theorem RV.far {W : World} {A : Option Addr} {n : Nat} {vs : List Value} (h : RV W A n vs) {g : Nat} (hg : ∀ ad, A = some ad → ad.block ≠ g) (i : Nat) (v : Value) : RV (W.setCell ⟨g, i, none⟩ v) A n vs :=
  ⟨h.1, fun h0 => by
    obtain ⟨b, o, rfl, hr⟩ := h.2 h0
    exact ⟨b, o, rfl, fun j u hu => (cell_far (a := ⟨b, o + j, none⟩) (show b ≠ g from hg ⟨b, o, none⟩ rfl)).trans (hr j u hu)⟩⟩
/-- Between two rounds: how many have come, in a variable; what is asked for beside it. -/
structure FlI (V1 : World) (b11 : Nat) (v11 : Value) (k : Nat) (W : World) : Prop where
  below : Below V1.heap.size V1 W
  want : W.heap[b11]? = some (.cells #[v11] 47 (0, 0))
  box : W.heap[b11 + 1]? = some (.cells #[.int .i64 (k : Int)] 3 (0, 0))
theorem FlI.stable {V1 W W' : World} {b11 k : Nat} {v11 : Value} (h : FlI V1 b11 v11 k W) (hb : Below W.heap.size W W') : FlI V1 b11 v11 k W' :=
  ⟨h.1.trans (hb.mono h.1.size), heap_below h.2 hb, heap_below h.3 hb⟩
theorem FlI.abides {V1 W : World} {b11 k l : Nat} {v11 : Value} {o : Obj} (h : FlI V1 b11 v11 k W) (o' : Obj) (hl : W.heap[l]? = some o) (ho : o.isCells = false) (hlt : V1.heap.size ≤ l) : FlI V1 b11 v11 k (W.putObj l o') :=
  ⟨below_putObj W l o' h.1 hlt h.1.size, heap_putObj h.2 o' hl ho, heap_putObj h.3 o' hl ho⟩
/-- What stays behind the loop: all that lay ahead, and the mark of the loop. -/
def Kept (V1 : World) (D : Nat) (W : World) : Prop := Below V1.heap.size V1 W ∧ W.heap[D]? = some (.deferred (some []))
theorem Kept.below {V1 W W' : World} {D : Nat} (h : Kept V1 D W) (hb : Below W.heap.size W W') : Kept V1 D W' := ⟨h.1.trans (hb.mono h.1.size), heap_below h.2 hb⟩
theorem Kept.put {V1 W : World} {D B s g n c k i : Nat} {e : TypeId} {xs : List Value} (h : Kept V1 D W) (ho : W.ownsRow B e s (.slice (some ⟨g, 0, none⟩) n c) k xs) (hB : V1.heap.size ≤ B) (v : Value) : Kept V1 D (W.setCell ⟨g, i, none⟩ v) := by
  obtain ⟨cs, hc⟩ := own_obj ho (b := g) rfl
  refine ⟨h.1.setCell (p := ⟨g, i, none⟩) (Nat.le_trans hB (ho.lt g rfl).1) _, (Below.heap_setCell W ⟨g, i, none⟩ v D (fun e => ?_)).trans h.2⟩
  subst e
  rw [h.2] at hc
  cases hc
set_option maxRecDepth 100000 in
set_option maxHeartbeats 4000000 in
theorem from_law (w : World) (A : Option Addr) (n c : Nat) (ls : List Po) (hr : RP w A n ls) (key : List UInt8) (at_ most0 : Int) :
    Calls Try.prog 14 #[.slice A n c, .string ⟨key.toArray⟩, .int .i64 at_, .int .i64 most0] w fun e w' => e = .returned (.bool true) ∧ Below w.heap.size w w' := by
  have H := Lib.hid hr
  clear hr
  refine (callsIn_wide (n := 9)).1 ?_
  refine callsIn_of_wp_marks Try.func14 rfl trivial ?_ rfl
  rw [wpIn_wide]
  simp only [Try.ntmps14, List.size_toArray, List.length_cons, List.length_nil, Nat.reduceAdd, Nat.reduceSub, Array.replicate_succ, Array.replicate_zero, List.push_toArray, List.append_toArray, List.nil_append, List.cons_append]
  go_wp2_with fail
  have hb0 : Below w.heap.size w ((w.alloc (.cells #[.int .i64 most0] 3)).alloc (.cells #[.bool false] 4)) := ((Below.refl _ _).alloc (Nat.le_refl _) _).alloc (by simp) _
  have k0 : ((w.alloc (.cells #[.int .i64 most0] 3)).alloc (.cells #[.bool false] 4)).heap[w.heap.size]? = some (.cells #[.int .i64 most0] 3 (0, 0)) := (Below.heap_alloc _ _ _ (by simp)).trans (heap_alloc_new w _)
  have k1 : ((w.alloc (.cells #[.int .i64 most0] 3)).alloc (.cells #[.bool false] 4)).heap[w.heap.size + 1]? = some (.cells #[.bool false] 4 (0, 0)) := heap_alloc_at _ _ _ (by simp)
  obtain ⟨W0, hW0⟩ : ∃ W0, W0 = (w.alloc (.cells #[.int .i64 most0] 3)).alloc (.cells #[.bool false] 4) := ⟨_, rfl⟩
  rw [← hW0] at hb0 k0 k1 ⊢
  have h0s : W0.heap.size = w.heap.size + 2 := by rw [hW0]; simp
  -- what a world above says, and what a truth value written leaves
  have early : ∀ (W : World) (v : Bool), Below w.heap.size w W → W.heap[w.heap.size + 1]? = some (.cells #[.bool false] 4 (0, 0)) → W.cell? ⟨w.heap.size + 1, 0, none⟩ = some (.bool false) ∧ W.frozen? ⟨w.heap.size + 1, 0, none⟩ = false ∧
      (W.setCell ⟨w.heap.size + 1, 0, none⟩ (.bool v)).cell? ⟨w.heap.size + 1, 0, none⟩ = some (.bool v) ∧ Below w.heap.size w (W.setCell ⟨w.heap.size + 1, 0, none⟩ (.bool v)) := by
    intro W v hb r
    refine ⟨by rw [cell_of_row _ _ _ _ _ _ r]; rfl, frozen_blk r 0, ?_, hb.setCell (p := ⟨w.heap.size + 1, 0, none⟩) (by simp) _⟩
    have r8 : (W.setCell ⟨w.heap.size + 1, 0, none⟩ (.bool v)).heap[w.heap.size + 1]? = some (.cells #[.bool v] 4 (0, 0)) := by
      rw [heap_setCell_same _ _ 0 _ _ _ r]; rfl
    rw [cell_of_row _ _ _ _ _ _ r8]; rfl
  have Early := Lib.hid early
  have H0 := Lib.hid (And.intro hb0 (And.intro k0 k1))
  have Hs0 := Lib.hid h0s
  clear hW0 hb0 k0 k1 early h0s
  refine (alive19_any W0).mono ?_
  rintro e w1 ⟨rfl, hb1⟩
  have H1 := Lib.hid hb1
  clear hb1
  go_wp2_with fail
  refine (long_any w1 A n c ls (H.out.below (H0.out.1.trans (H1.out.mono H0.out.1.size)))).mono ?_
  rintro e w2 ⟨bl, rfl, hbl, hb2⟩
  have H2 := Lib.hid (H1.out.trans (hb2.mono H1.out.size))
  have Hbl := Lib.hid hbl
  clear hb2 hbl H1
  have r2 : w2.heap[w.heap.size + 1]? = some (.cells #[.bool false] 4 (0, 0)) := heap_below H0.out.2.2 H2.out
  have b2 : Below w.heap.size w w2 := H0.out.1.trans (H2.out.mono H0.out.1.size)
  obtain ⟨e1, e2, e3, e4⟩ := Early.out w2 true b2 r2
  clear r2
  cases bl with
  | true =>
    have HE := Lib.hid (And.intro e3 e4)
    clear e3 e4 b2
    go_wp2
    exact ⟨_, results_cell_bool rfl _ _ _ (w.heap.size + 1) (.bool true) rfl HE.out.1 Try.underlying4, rfl, HE.out.2⟩
  | false =>
    by_cases h300 : 300 < key.length
    · have HE := Lib.hid (And.intro e3 e4)
      clear e3 e4 b2
      go_wp2
      exact ⟨_, results_cell_bool rfl _ _ _ (w.heap.size + 1) (.bool true) rfl HE.out.1 Try.underlying4, rfl, HE.out.2⟩
    · obtain ⟨h61, -⟩ := Hbl.out rfl
      rw [H.out.1] at h61
      have HB2 := Lib.hid b2
      clear e1 e2 e3 e4 b2 Hbl
      go_wp2_with fail
      have hrn := refNew_any w2 A n c ls (H.out.below HB2.out) (by omega)
      have hasc := (newF_all ls).1
      have hLn := newF_length ls
      rw [H.out.1] at hLn
      obtain ⟨L, hL⟩ : ∃ L, L = newF ls := ⟨_, rfl⟩
      rw [← hL] at hrn hasc hLn
      have Hasc := Lib.hid hasc
      have HL := Lib.hid hL
      have HRN := Lib.hid hrn
      clear hL hasc hrn
      obtain ⟨N, hN⟩ : ∃ N, N = L.length := ⟨_, rfl⟩
      rw [← hN] at hLn
      have HN := Lib.hid hN
      clear hN
      refine HRN.out.mono ?_
      rintro e w3 ⟨Aw, cw, rfl, hown3, hb3⟩
      rw [← HN.out] at hown3 ⊢
      have FA := Lib.hid (own_far hown3)
      have hs2 : w.heap.size + 2 ≤ w2.heap.size := by have := H2.out.size; have := Hs0.out; omega
      have H3 := Lib.hid (And.intro (H2.out.trans (hb3.mono H2.out.size)) (RP.of_own hown3))
      clear hown3 hb3 HRN H2 HB2
      go_wp2_with fail
      have up3 : Below w.heap.size w w3 := H0.out.1.trans (H3.out.1.mono H0.out.1.size)
      refine (posts_any w3 A n c ls (H.out.below up3) (by omega)).mono ?_
      rintro e w4 ⟨Ap, cp, rfl, hown4, hb4⟩
      rw [H.out.1] at hown4 ⊢
      have hpc : n ≤ cp := by
        obtain ⟨A9, c9, e9, h9, -, -⟩ := own_formK hown4
        cases e9
        exact h9
      have hrp4 := RP.of_own hown4
      have H4 := Lib.hid (And.intro (H3.out.1.trans (hb4.mono H3.out.1.size)) (H3.out.2.below hb4))
      clear hown4 hb4 H3 up3
      go_wp2_with fail
      refine (new_run w4 Ap n cp ls hrp4 (by omega) hpc).mono ?_
      intro e w5 hp5
      obtain ⟨Ar, cr, rfl, hr5, hc5, hm5, hb5⟩ := hp5.rp
      have FR : Hid (∀ ad, Ar = some ad → w4.heap.size ≤ ad.block) := by
        obtain ⟨A9, c9, e9, h9, -⟩ := hp5
        cases e9
        exact Lib.hid (own_far h9)
      have hs4 : w.heap.size + 2 ≤ w4.heap.size := by have := H4.out.1.size; have := Hs0.out; omega
      rw [← HL.out, ← HN.out] at hr5 hc5 ⊢
      have H5 := Lib.hid (And.intro (H4.out.1.trans (hb5.mono H4.out.1.size)) (And.intro (H4.out.2.below hb5) hr5))
      have Hm5 := Lib.hid hm5
      clear hp5 hr5 hb5 H4 hrp4 hpc hm5
      go_wp2_with fail
      have hb6 : Below w5.heap.size w5 (w5.alloc (.cells #[.slice Ar N cr] 28)) := (Below.refl _ _).alloc (Nat.le_refl _) _
      have k6 : (w5.alloc (.cells #[.slice Ar N cr] 28)).heap[w5.heap.size]? = some (.cells #[.slice Ar N cr] 28 (0, 0)) := heap_alloc_new w5 _
      obtain ⟨w6, hw6⟩ : ∃ w6, w6 = w5.alloc (.cells #[.slice Ar N cr] 28) := ⟨_, rfl⟩
      obtain ⟨bx, hbx⟩ : ∃ bx, bx = w5.heap.size := ⟨_, rfl⟩
      have hbx2 : w.heap.size + 2 ≤ bx := by have := H5.out.1.size; have := Hs0.out; omega
      have H6 := Lib.hid (And.intro (H5.out.1.trans (hb6.mono H5.out.1.size)) (And.intro (H5.out.2.1.below hb6) (And.intro (H5.out.2.2.below hb6) k6)))
      rw [← hw6, ← hbx] at H6 ⊢
      clear hb6 k6 hw6 hbx H5
      have hrf := refFrom_any w6 Aw N cw L H6.out.2.1 (by omega) key at_
      have hTn := fromF_le L key at_
      rw [fromF_eq Hasc.out key at_] at hrf hTn
      obtain ⟨T, hT⟩ : ∃ T, T = ((L.drop (seekF L key at_)).takeWhile fun p => decide (p.1 = key)).map (·.2) := ⟨_, rfl⟩
      rw [← hT] at hrf hTn
      have HT := Lib.hid (show T = placesF L key at_ from hT)
      rw [← HN.out] at hTn
      obtain ⟨tn, htn⟩ : ∃ tn, tn = T.length := ⟨_, rfl⟩
      rw [← htn] at hTn
      have Htn := Lib.hid htn
      have HRF := Lib.hid hrf
      clear hT htn hrf
      refine HRF.out.mono ?_
      rintro e w7 ⟨AT, cT, rfl, hown7, hb7⟩
      rw [← Htn.out] at hown7 ⊢
      have FT := Lib.hid (own_far hown7)
      have hs6 : w.heap.size + 2 ≤ w6.heap.size := by have := H6.out.1.size; have := Hs0.out; omega
      have H7 := Lib.hid (And.intro (H6.out.1.trans (hb7.mono H6.out.1.size)) (And.intro (H6.out.2.1.below hb7) (And.intro (H6.out.2.2.1.below hb7) (And.intro (heap_below H6.out.2.2.2 hb7) (own_rv hown7)))))
      clear hown7 hb7 HRF H6
      have k7 : w7.heap[w.heap.size]? = some (.cells #[.int .i64 most0] 3 (0, 0)) := heap_below H0.out.2.1 H7.out.1
      have c7 : w7.cell? ⟨w.heap.size, 0, none⟩ = some (.int .i64 most0) := by rw [cell_of_row _ _ _ _ _ _ k7]; rfl
      have f7 : w7.frozen? ⟨w.heap.size, 0, none⟩ = false := frozen_blk k7 0
      have l7 : w.heap.size < w7.heap.size := World.block_lt_of_cell? _ _ c7
      have K7 := Lib.hid k7
      clear k7
      obtain ⟨M, hM, hM1, hM2⟩ := most_num most0
      have c10 : w7.cell? ⟨bx, 0, none⟩ = some (.slice Ar N cr) := by rw [cell_of_row _ _ _ _ _ _ H7.out.2.2.2.1]; rfl
      have l10 : bx < w7.heap.size := World.block_lt_of_cell? _ _ c10
      have n10 : bx ≠ w.heap.size := by omega
      have n10' : w.heap.size ≠ bx := by omega
      go_wp2_with fail
      obtain ⟨b11, hb11⟩ : ∃ b11, b11 = w7.heap.size := ⟨_, rfl⟩
      have hlt11 : bx < b11 := by omega
      obtain ⟨V1, hV1⟩ : ∃ V1, V1 = w7.setCell ⟨w.heap.size, 0, none⟩ (.int .i64 (M : Int)) := ⟨_, rfl⟩
      obtain ⟨W8, hW8⟩ : ∃ W8, W8 = (V1.alloc (.cells #[.slice AT tn cT] 47)).alloc (.cells #[.int .i64 0] 3) := ⟨_, rfl⟩
      have hsV : V1.heap.size = b11 := by rw [hV1, hb11]; simp
      have hs8 : W8.heap.size = b11 + 2 := by rw [hW8]; simp [hsV]
      have hal : Below V1.heap.size V1 W8 := by rw [hW8]; exact ((Below.refl _ _).alloc (Nat.le_refl _) _).alloc (by simp) _
      have up7 : Below w.heap.size w w7 := H0.out.1.trans (H7.out.1.mono H0.out.1.size)
      have hbV : Below w.heap.size w V1 := by rw [hV1]; exact up7.setCell (p := ⟨w.heap.size, 0, none⟩) (Nat.le_refl _) _
      have i8 : Below w.heap.size w W8 := hbV.trans (hal.mono hbV.size)
      have i7 : V1.heap[w.heap.size]? = some (.cells #[.int .i64 (M : Int)] 3 (0, 0)) := by
        rw [hV1, heap_setCell_same _ w.heap.size 0 _ _ _ K7.out]; rfl
      have i9 : V1.heap[w.heap.size + 1]? = some (.cells #[.bool false] 4 (0, 0)) := by
        rw [hV1]
        exact (Below.heap_setCell w7 ⟨w.heap.size, 0, none⟩ _ _ (by simp)).trans (heap_below H0.out.2.2 H7.out.1)
      have i10 : V1.heap[bx]? = some (.cells #[.slice Ar N cr] 28 (0, 0)) := by
        rw [hV1]
        exact (Below.heap_setCell w7 ⟨w.heap.size, 0, none⟩ _ _ n10).trans H7.out.2.2.2.1
      have i11 : W8.heap[b11]? = some (.cells #[.slice AT tn cT] 47 (0, 0)) := by
        rw [hW8]
        exact (Below.heap_alloc _ _ _ (by simp [hsV])).trans (heap_alloc_at _ _ _ hsV)
      have i12 : W8.heap[b11 + 1]? = some (.cells #[.int .i64 0] 3 (0, 0)) := by
        rw [hW8]
        exact heap_alloc_at _ _ _ (by simp [hsV])
      have j1 : RP V1 Aw N L := by
        rw [hV1]
        exact H7.out.2.1.far (fun ad e => by have := FA.out ad e; omega) _ _
      have j2 : RP V1 Ar N L := by
        rw [hV1]
        exact H7.out.2.2.1.far (fun ad e => by have := FR.out ad e; omega) _ _
      have j3 : RV V1 AT tn (T.map I64v) := by
        rw [hV1]
        exact H7.out.2.2.2.2.far (fun ad e => by have := FT.out ad e; omega) _ _
      rw [show (((w7.setCell ⟨w.heap.size, 0, none⟩ (.int .i64 (M : Int))).alloc (.cells #[.slice AT tn cT] 47)).alloc (.cells #[.int .i64 0] 3)) = W8 by rw [hW8, hV1]]
      have HF8 : Hid (FlI V1 b11 (.slice AT tn cT) 0 W8) := Lib.hid ⟨hal, i11, i12⟩
      have IV := Lib.hid hbV
      have I7 := Lib.hid i7
      have I9 := Lib.hid i9
      have I10 := Lib.hid i10
      have J1 := Lib.hid j1
      have J2 := Lib.hid j2
      have J3 := Lib.hid j3
      have HsV := Lib.hid hsV
      have Hs8 := Lib.hid hs8
      have H18 := Lib.hid hal
      rw [← hb11]
      clear i8 i7 i9 i10 i11 i12 j1 j2 j3 hs8 hW8 hV1 hsV hal up7 hbV hb11 FA FR FT c7 f7 l7 K7 H7 c10 l10 n10' hM H0
      refine (from_any W8 Ar N cr key at_).mono ?_
      rintro e W9 ⟨rfl, hW9⟩
      have hb9 : Below W8.heap.size W8 W9 := by
        rw [← hW9]
        exact (((Below.refl _ _).alloc (Nat.le_refl _) _).alloc (by simp) _).alloc (by simp; omega) _
      have g1 : W9.cell? ⟨W8.heap.size, 0, none⟩ = some (.slice Ar N cr) := by
        have h : W9.heap[W8.heap.size]? = some (.cells #[.slice Ar N cr] 28 (0, 0)) := by
          rw [← hW9]
          exact (Below.heap_alloc _ _ _ (by simp; omega)).trans ((Below.heap_alloc _ _ _ (by simp)).trans (heap_alloc_new W8 _))
        rw [cell_of_row _ _ _ _ _ _ h]; rfl
      have g2 : W9.cell? ⟨W8.heap.size + 1, 0, none⟩ = some (.string ⟨key.toArray⟩) := by
        have h : W9.heap[W8.heap.size + 1]? = some (.cells #[.string ⟨key.toArray⟩] 9 (0, 0)) := by
          rw [← hW9]
          exact (Below.heap_alloc _ _ _ (by simp)).trans (heap_alloc_at _ _ _ (by simp))
        rw [cell_of_row _ _ _ _ _ _ h]; rfl
      have g3 : W9.cell? ⟨W8.heap.size + 2, 0, none⟩ = some (.int .i64 at_) := by
        have h : W9.heap[W8.heap.size + 2]? = some (.cells #[.int .i64 at_] 3 (0, 0)) := by
          rw [← hW9]
          exact heap_alloc_at _ _ _ (by simp)
        rw [cell_of_row _ _ _ _ _ _ h]; rfl
      have F9 := HF8.out.stable hb9
      have G := Lib.hid (And.intro g1 (And.intro g2 (And.intro g3 F9)))
      have B9 := Lib.hid hb9
      have hit := from_iter W8.heap.size (W8.heap.size + 1) (W8.heap.size + 2) Ar N cr L (by omega) hc5 Hm5.out Hasc.out key at_
      rw [← HT.out, ← Htn.out] at hit
      have Hit := Lib.hid hit
      clear hW9 hb9 g1 g2 g3 F9 hit
      go_wp2_with fail
      refine wp_rangeIterM (n := 9) rfl (enters_of Try.func42 (by kernel_rfl) rfl) Hit.out (fun k args W h => by obtain ⟨t, _, rfl⟩ := h; rfl)
        (fun h1 h2 => ⟨fun h => h2.1 (h1.1 h), fun h => h2.2 (h1.2 h)⟩) (fun W l o o' _ hl ho => ⟨fun h => h.putObj o' hl ho, fun h => cell_putObj h o' hl ho⟩) (fun k args W l o o' h _ _ _ => h)
        (fun k W => k < M ∧ FlI V1 b11 (.slice AT tn cT) k W) (fun k W => k + 1 = M ∧ FlI V1 b11 (.slice AT tn cT) M W)
        (fun k W W' h hb => ⟨h.1, h.2.stable hb⟩) (fun k W W' h hb => ⟨h.1, h.2.stable hb⟩)
        (fun k W l o o' h hl ho hoc => ⟨h.1, h.2.abides o' ho hoc (by have := B9.out.size; have := H18.out.size; omega)⟩)
        (fun k W l o o' h hl ho hoc => ⟨h.1, h.2.abides o' ho hoc (by have := B9.out.size; have := H18.out.size; omega)⟩)
        ?pre ?start (fun args T => (T.setIfInBounds 45 (args.getD 0 undef)).setIfInBounds 13 (args.getD 0 undef))
        (fun W => FlI V1 b11 (.slice AT tn cT) (min M tn) W) ?assign ?body ?runs ?left ?rest
      case pre =>
        intro W hb
        have hs := Hs8.out
        have hs9 := B9.out.size
        have hl3 : W8.heap.size + 2 < W9.heap.size := World.block_lt_of_cell? _ _ G.out.2.2.1
        exact ⟨(hb.cell (p := ⟨W8.heap.size, 0, none⟩) (by show W8.heap.size < W9.heap.size; omega)).trans G.out.1, (hb.cell (p := ⟨W8.heap.size + 1, 0, none⟩) (by show W8.heap.size + 1 < W9.heap.size; omega)).trans G.out.2.1,
          (hb.cell (p := ⟨W8.heap.size + 2, 0, none⟩) hl3).trans G.out.2.2.1, (J2.out.below H18.out).below (B9.out.trans (hb.mono hs9))⟩
      case start => exact ⟨by omega, G.out.2.2.2⟩
      case runs =>
        rintro W ⟨h1, h2⟩
        rw [Nat.min_eq_right (by omega)]
        exact h2
      case left =>
        rintro k W hk ⟨h1, h2⟩
        rw [Nat.min_eq_left (by omega)]
        exact h2
      case assign =>
        rintro l k args W K ⟨t, _, rfl⟩ hK
        gi_wp2
        simpa using hK
      case body =>
        rintro l k args W hk ⟨hkM, hF⟩ ⟨t, ht, rfl⟩
        obtain ⟨b5, o5, u5, rfl, hu5, hc5'⟩ := (J3.out.below hF.below).at_ hk
        rw [List.getElem?_map, ht] at hu5
        cases hu5
        have c1 : W.cell? ⟨b11 + 1, 0, none⟩ = some (.int .i64 (k : Int)) := by rw [cell_of_row _ _ _ _ _ _ hF.box]; rfl
        have f1 := frozen_blk hF.box 0
        have l1 := (Array.getElem?_eq_some_iff.1 hF.box).1
        have c2 : W.cell? ⟨b11, 0, none⟩ = some (.slice (some ⟨b5, o5, none⟩) tn cT) := by rw [cell_of_row _ _ _ _ _ _ hF.want]; rfl
        have c3 : W.cell? ⟨w.heap.size, 0, none⟩ = some (.int .i64 (M : Int)) := by rw [cell_of_row _ _ _ _ _ _ (heap_below I7.out hF.below)]; rfl
        have hd : decide (tn ≤ k) = false := decide_eq_false (by omega)
        have n1 : w.heap.size ≠ b11 + 1 := by omega
        unfold I64v at hc5'
        have HF := Lib.hid hF
        simp only [show ∀ a : Value, #[a].getD 0 undef = a from fun _ => rfl, List.setIfInBounds_toArray, List.set_cons_succ, List.set_cons_zero]
        have hF2 : FlI V1 b11 (.slice (some ⟨b5, o5, none⟩) tn cT) (k + 1) (W.setCell ⟨b11 + 1, 0, none⟩ (.int .i64 ((k : Int) + 1))) := by
          refine ⟨hF.below.setCell (p := ⟨b11 + 1, 0, none⟩) (by have := HsV.out; show V1.heap.size ≤ b11 + 1; omega) _, (Below.heap_setCell W ⟨b11 + 1, 0, none⟩ _ _ (by simp)).trans hF.want, ?_⟩
          rw [heap_setCell_same _ (b11 + 1) 0 _ _ _ hF.box]
          rfl
        have hkp : FmKp Ar N L (W8.heap.size + 1) key W (W.setCell ⟨b11 + 1, 0, none⟩ (.int .i64 ((k : Int) + 1))) :=
          ⟨fun _ => J2.out.below hF2.below, fun h => (cell_far (a := ⟨W8.heap.size + 1, 0, none⟩) (by have := Hs8.out; show W8.heap.size + 1 ≠ b11 + 1; omega)).trans h⟩
        have HF2 := Lib.hid hF2
        have Hkp := Lib.hid hkp
        clear ht hF hF2 hkp
        by_cases hkm : k + 1 = M
        · have hz : (((k : Int) + 1) == (M : Int)) = true := by rw [beq_iff_eq]; omega
          gi_wp2
          refine ⟨KeepsOthers.setCell _ _ _, rfl, hkm, ?_⟩
          rw [← hkm]
          exact HF2.out
        · have hz : (((k : Int) + 1) == (M : Int)) = false := by rw [beq_eq_false_iff_ne]; omega
          gi_wp2
          exact ⟨KeepsOthers.setCell _ _ _, Hkp.out, by omega, HF2.out⟩
      case rest =>
        rintro D W hD hF hK
        have HF := Lib.hid hF
        have c1 : W.cell? ⟨b11 + 1, 0, none⟩ = some (.int .i64 ((min M tn : Nat) : Int)) := by rw [cell_of_row _ _ _ _ _ _ hF.box]; rfl
        have c2 : W.cell? ⟨b11, 0, none⟩ = some (.slice AT tn cT) := by rw [cell_of_row _ _ _ _ _ _ hF.want]; rfl
        have c3 : W.cell? ⟨w.heap.size, 0, none⟩ = some (.int .i64 (M : Int)) := by rw [cell_of_row _ _ _ _ _ _ (heap_below I7.out hF.below)]; rfl
        have c4 : W.cell? ⟨bx, 0, none⟩ = some (.slice Ar N cr) := by rw [cell_of_row _ _ _ _ _ _ (heap_below I10.out hF.below)]; rfl
        have hKe : Kept V1 D W := ⟨hF.below, hK⟩
        have HKe := Lib.hid hKe
        have hVB := hF.below.size
        clear hF hK hKe
        go_wp2_with fail
        have hof := of_any W Ar N cr L (by omega) hc5 Hm5.out Hasc.out key (J2.out.below HKe.out.1)
        have hUn : (placesF L key (-9223372036854775808)).length ≤ N := by
          have h5 := fromF_le L key (-9223372036854775808)
          rw [fromF_eq Hasc.out key (-9223372036854775808), ← HN.out] at h5
          exact h5
        have hrf := fun (u : World) (h : RP u Aw N L) => refFrom_any u Aw N cw L h (by omega) key (-9223372036854775808)
        rw [show fromF L key (-9223372036854775808) = placesF L key (-9223372036854775808) from fromF_eq Hasc.out key _] at hrf
        obtain ⟨U, hU⟩ : ∃ U, U = placesF L key (-9223372036854775808) := ⟨_, rfl⟩
        rw [← hU] at hof hrf hUn
        obtain ⟨um, hum⟩ : ∃ um, um = U.length := ⟨_, rfl⟩
        rw [← hum] at hUn
        have Hum := Lib.hid hum
        have HRF := Lib.hid hrf
        have HOF := Lib.hid hof
        clear hU hum hrf hof
        refine HOF.out.mono ?_
        rintro e W2 ⟨Ao, co, rfl, hown2, hb2⟩
        rw [← Hum.out] at hown2 ⊢
        have H2 := Lib.hid (And.intro (HKe.out.below hb2) hown2)
        clear hb2 hown2 HOF c1 c2 c3 c4
        go_wp2_with fail
        refine (HRF.out W2 (J1.out.below H2.out.1.1)).mono ?_
        rintro e W3 ⟨Ak, ck, rfl, hown3, hb3⟩
        rw [← Hum.out] at hown3 ⊢
        have H3 := Lib.hid (And.intro (H2.out.1.below hb3) (ownsRow_below H2.out.2 hb3))
        have hint := ints_any W3 Ao Ak um um co ck U U (own_rv H3.out.2) (own_rv hown3) (by omega) (by omega)
        rw [decide_eq_true rfl] at hint
        have HI := Lib.hid hint
        clear hown3 hb3 H2 HRF hint
        go_wp2_with fail
        refine HI.out.mono ?_
        rintro e W4 ⟨rfl, q, hq⟩
        have hb4 : Below W3.heap.size W3 W4 := by rw [hq]; exact below_drewN (Below.refl _ _) q
        have H4 := Lib.hid (And.intro (H3.out.1.below hb4) (ownsRow_below H3.out.2 hb4))
        clear hq hb4 H3 HI
        go_wp2_with fail
        go_loopw [80] (fun s wr => ∃ (k : Nat) (ys : List Value), k ≤ um ∧ s = .int .i64 (k : Int) ∧ Hid (Kept V1 D wr ∧ wr.ownsRow W.heap.size 3 1 (.slice Ao um co) um ys)) (fun s _ => um - (intOf s).toNat)
        case atStart => exact ⟨0, _, Nat.zero_le _, rfl, H4⟩
        case round =>
          obtain ⟨k, ys, hk, rfl, HY⟩ := hrel
          by_cases hlt : k < um
          · obtain ⟨A9, c9, e9, -, -, hf⟩ := own_formK HY.out.2
            cases e9
            obtain ⟨g, rfl, -, -, -⟩ := hf (by omega)
            have hth := own_there HY.out.2
            have hk1 := hth k (by omega)
            rw [Nat.zero_add] at hk1
            obtain ⟨hs1, hs2⟩ := hk1
            obtain ⟨y0, hy0⟩ := Option.isSome_iff_exists.1 hs1
            clear hs1
            have hY2 : Kept V1 D (wr.setCell ⟨g, k, none⟩ (.int .i64 77)) ∧ (wr.setCell ⟨g, k, none⟩ (.int .i64 77)).ownsRow W.heap.size 3 1 (.slice (some ⟨g, 0, none⟩) um co) um (ys.set k (.int .i64 77)) :=
              ⟨HY.out.1.put HY.out.2 hVB _, own_setCell_at HY.out.2⟩
            have HY2 := Lib.hid hY2
            clear hf hth hY2
            go_wp2
            go_roundw
            case rel => exact ⟨k + 1, _, hlt, by go_num, HY2⟩
            case measure => simp [intOf]; omega
          · obtain rfl : k = um := by omega
            have c4 : wr.cell? ⟨bx, 0, none⟩ = some (.slice Ar N cr) := by rw [cell_of_row _ _ _ _ _ _ (heap_below I10.out HY.out.1.1)]; rfl
            go_wp2_with fail
            refine (keys_any wr Ar N cr L (J2.out.below HY.out.1.1) (by omega)).mono ?_
            rintro e W6 ⟨Ay, cy, rfl, hown6, hb6⟩
            obtain ⟨ky, hky⟩ : ∃ ky, ky = (keysF L).length := ⟨_, rfl⟩
            rw [← hky] at hown6 ⊢
            have hkl := keysF_le L
            rw [← HN.out, ← hky] at hkl
            have hVB6 : V1.heap.size ≤ wr.heap.size := HY.out.1.1.size
            have H6 := Lib.hid (And.intro (HY.out.1.below hb6) hown6)
            clear hky hown6 hb6 c4 HY H4
            obtain ⟨B6, hB6⟩ : ∃ B6, B6 = wr.heap.size := ⟨_, rfl⟩
            rw [← hB6] at H6 hVB6
            clear hB6
            go_wp2_with fail
            go_loopw [91] (fun s wr => ∃ (k : Nat) (ys : List Value), k ≤ ky ∧ s = .int .i64 (k : Int) ∧ Hid (Kept V1 D wr ∧ wr.ownsRow B6 9 1 (.slice Ay ky cy) ky ys)) (fun s _ => ky - (intOf s).toNat)
            case atStart => exact ⟨0, _, Nat.zero_le _, rfl, H6⟩
            case round =>
              obtain ⟨j, ys, hj, rfl, HZ⟩ := hrel
              by_cases hlt : j < ky
              · obtain ⟨A9, c9, e9, -, -, hf⟩ := own_formK HZ.out.2
                cases e9
                obtain ⟨g, rfl, -, -, -⟩ := hf (by omega)
                have hth := own_there HZ.out.2
                have hk1 := hth j (by omega)
                rw [Nat.zero_add] at hk1
                obtain ⟨hs1, hs2⟩ := hk1
                obtain ⟨y0, hy0⟩ := Option.isSome_iff_exists.1 hs1
                clear hs1
                have hY2 : Kept V1 D (wr.setCell ⟨g, j, none⟩ (.string ⟨#[99, 104, 97, 110, 103, 101, 100]⟩)) ∧ (wr.setCell ⟨g, j, none⟩ (.string ⟨#[99, 104, 97, 110, 103, 101, 100]⟩)).ownsRow B6 9 1 (.slice (some ⟨g, 0, none⟩) ky cy) ky (ys.set j (.string ⟨#[99, 104, 97, 110, 103, 101, 100]⟩)) :=
                  ⟨HZ.out.1.put HZ.out.2 hVB6 _, own_setCell_at HZ.out.2⟩
                have HY2 := Lib.hid hY2
                clear hf hth hY2
                go_wp2
                go_roundw
                case rel => exact ⟨j + 1, _, hlt, by go_num, HY2⟩
                case measure => simp [intOf]; omega
              · obtain rfl : j = ky := by omega
                have c4 : wr.cell? ⟨bx, 0, none⟩ = some (.slice Ar N cr) := by rw [cell_of_row _ _ _ _ _ _ (heap_below I10.out HZ.out.1.1)]; rfl
                have hiy := is_yes wr Ar Aw N cr cw L (J2.out.below HZ.out.1.1) (J1.out.below HZ.out.1.1) (by omega)
                have HIY := Lib.hid hiy
                clear hiy
                go_wp2_with fail
                refine HIY.out.mono ?_
                rintro e W9' ⟨rfl, hb9⟩
                have hKF := HZ.out.1.below hb9
                obtain ⟨e1, e2, e3, e4⟩ := Early.out W9' true (IV.out.trans (hKF.1.mono IV.out.size)) (heap_below I9.out hKF.1)
                have HE := Lib.hid (And.intro e3 e4)
                have HKD := Lib.hid hKF.2
                clear e3 e4 hKF hb9 HIY HZ H6 c4
                go_wp2
                have hK2 := (KeepsOthers.setCell W9' ⟨w.heap.size + 1, 0, none⟩ (.bool true)).same D _ HKD.out rfl
                refine ⟨by simp, .inl ⟨_, _, rfl, run_takeDeferred hK2, ?_⟩⟩
                exact ⟨_, results_cell_bool rfl _ _ _ (w.heap.size + 1) (.bool true) rfl (cell_putObj HE.out.1 _ hK2 rfl) Try.underlying4, rfl, below_putObj _ D _ HE.out.2 (by have := B9.out.size; have := H18.out.size; have := IV.out.size; omega) HE.out.2.size⟩
set_option maxRecDepth 100000 in
theorem runsPlaces_law (w : World) (v0 : Value) (ls : List Po) (h0 : SP w v0 ls) (key : List UInt8) (a m : Int) :
    Calls Try.prog 4 #[.agg #[v0, .string ⟨key.toArray⟩, .int .i64 a, .int .i64 m]] w fun e w' => e = .returned (.bool true) ∧ Below w.heap.size w w' := by
  obtain ⟨A, n, c, rfl, hnc, hcm, hr⟩ := h0
  have H := Lib.hid hr
  clear hr
  go_enter Try.func4, Try.ntmps4
  go_wp2_with fail
  have hb : Below w.heap.size w (w.alloc (.cells #[.slice A n c, .string ⟨key.toArray⟩, .int .i64 a, .int .i64 m] 36)) := (Below.refl _ _).alloc (Nat.le_refl _) _
  have HB := Lib.hid hb
  refine (from_law _ A n c ls (H.out.below hb) key a m).mono ?_
  clear hb
  rintro e w' ⟨rfl, hb2⟩
  have HB2 := Lib.hid (HB.out.trans (hb2.mono HB.out.size))
  clear hb2
  go_wp2_with fail
  go_ret
  exact ⟨rfl, HB2.out⟩
end Go.Proofs.Ytkfpnilbjjkhgaa
