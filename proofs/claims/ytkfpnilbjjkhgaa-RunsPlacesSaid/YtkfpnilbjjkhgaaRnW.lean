/-
  THE WALK of the law RunsNew.
-/
import Derived.Test.YtkfpnilbjjkhgaaRnV
namespace Go.Proofs.Ytkfpnilbjjkhgaa
open Go.RowKit Go.Lib Go.Sort

def chP : Po := ([99, 104, 97, 110, 103, 101, 100], 0)
/-- While the posts are changed, one by one: the changed row; the run, in its box, as it was. -/
structure NwI (w : World) (B2 bx n cp N cr : Nat) (Ap Ar : Option Addr) (ls L : List Po) (k : Nat) (W : World) : Prop where
  below : Below w.heap.size w W
  prow : W.ownsRow w.heap.size 31 2 (.slice Ap n cp) n (flatP (List.replicate k chP ++ ls.drop k))
  rrow : W.ownsRow B2 31 2 (.slice Ar N cr) N (flatP L)
  box : W.heap[bx]? = some (.cells #[.slice Ar N cr] 28 (0, 0))
theorem rep_at {ls : List Po} {k : Nat} {p : Po} (hp : ls[k]? = some p) : (List.replicate k chP ++ ls.drop k)[k]? = some p ∧ (List.replicate k chP ++ ls.drop k).set k chP = List.replicate (k + 1) chP ++ ls.drop (k + 1) := by
  have hk := (List.getElem?_eq_some_iff.1 hp).1
  constructor
  · rw [List.getElem?_append_right (by simp), List.length_replicate, Nat.sub_self, List.getElem?_drop]
    exact hp
  · rw [List.set_append_right _ _ (by simp), List.length_replicate, Nat.sub_self, List.drop_eq_getElem_cons hk, List.set_cons_zero, List.replicate_succ', List.append_assoc]
    rfl
set_option maxRecDepth 100000 in
set_option maxHeartbeats 4000000 in
theorem runsNew_law (w : World) (v0 : Value) (ls : List Po) (h0 : SP w v0 ls) :
    Calls Try.prog 3 #[v0] w fun e w' => e = .returned (.bool true) ∧ Below w.heap.size w w' := by
  obtain ⟨A, n, c, rfl, hnc, hcm, hr⟩ := h0
  have H := Lib.hid hr
  clear hr
  go_enter Try.func3, Try.ntmps3
  go_wp2_with fail
  refine (alive19_any w).mono ?_
  rintro e w1 ⟨rfl, hb1⟩
  have HB1 := Lib.hid hb1
  clear hb1
  go_wp2_with fail
  refine (long_any w1 A n c ls (H.out.below HB1.out)).mono ?_
  rintro e w2 ⟨bl, rfl, hbl, hb2⟩
  have HB2 := Lib.hid (HB1.out.trans (hb2.mono HB1.out.size))
  have Hbl := Lib.hid hbl
  clear hb2 hbl HB1
  cases bl with
  | true =>
    go_wp2_with fail
    go_ret
    exact ⟨rfl, HB2.out⟩
  | false =>
    obtain ⟨h61, h300⟩ := Hbl.out rfl
    rw [H.out.1] at h61
    clear h300 Hbl
    go_wp2_with fail
    refine (posts_any w2 A n c ls (H.out.below HB2.out) (by omega)).mono ?_
    rw [show PostsPost w2 ls = PostsPost w2 ls from rfl]
    rintro e w3 ⟨Ap, cp, rfl, hown3, hb3⟩
    rw [H.out.1] at hown3 ⊢
    have hpc : n ≤ cp := by
      obtain ⟨A9, c9, e9, h9, -, -⟩ := own_formK hown3
      cases e9
      exact h9
    have H3 := Lib.hid (And.intro hown3 (HB2.out.trans (hb3.mono HB2.out.size)))
    have HBa := Lib.hid HB2.out.size
    clear hown3 hb3 HB2
    go_wp2_with fail
    refine (new_run w3 Ap n cp ls (RP.of_own H3.out.1) (by omega) hpc).mono ?_
    rintro e w4 ⟨Ar, cr, rfl, hown4, hb4⟩
    obtain ⟨L, hL⟩ : ∃ L, L = newF ls := ⟨_, rfl⟩
    rw [← hL] at hown4 ⊢
    obtain ⟨N, hN⟩ : ∃ N, N = L.length := ⟨_, rfl⟩
    rw [← hN] at hown4 ⊢
    have hb5 : Below w4.heap.size w4 (w4.alloc (.cells #[.slice Ar N cr] 28)) := (Below.refl _ _).alloc (Nat.le_refl _) _
    have h34 : w3.heap.size ≤ w4.heap.size := hb4.size
    have hgp : ∀ gp, Ap = some ⟨gp, 0, none⟩ → gp < w3.heap.size := fun gp e => (H3.out.1.lt gp (by rw [e]; rfl)).2
    have hprow : w4.ownsRow w.heap.size 31 2 (.slice Ap n cp) n (flatP ls) := own_wide (ownsRow_below H3.out.1 hb4) HBa.out
    have hI : NwI w w3.heap.size w4.heap.size n cp N cr Ap Ar ls L 0 (w4.alloc (.cells #[.slice Ar N cr] 28)) :=
      ⟨(H3.out.2.trans (hb4.mono H3.out.2.size)).trans (hb5.mono (Nat.le_trans H3.out.2.size h34)), by simpa using hprow.alloc _, hown4.alloc _, heap_alloc_new w4 _⟩
    have HI := Lib.hid hI
    have HL := Lib.hid hL
    have HN := Lib.hid hN
    have Hgp := Lib.hid hgp
    have h3w : w.heap.size ≤ w3.heap.size := H3.out.2.size
    obtain ⟨bx, hbx⟩ : ∃ bx, bx = w4.heap.size := ⟨_, rfl⟩
    have hbx3 : w3.heap.size ≤ bx := by omega
    have Hbx := Lib.hid hbx
    rw [← hbx] at HI
    clear hb5 hprow hI hown4 hb4 hL hN hgp h34 H3 hbx
    go_wp2_with fail
    rw [← Hbx.out]
    go_loopw [16] (fun s wr => ∃ k : Nat, k ≤ n ∧ s = .int .i64 (k : Int) ∧ Hid (NwI w w3.heap.size bx n cp N cr Ap Ar ls L k wr)) (fun s _ => n - (intOf s).toNat)
    case atStart => exact ⟨0, Nat.zero_le _, rfl, HI⟩
    case round =>
      obtain ⟨k, hk, rfl, HK⟩ := hrel
      by_cases hlt : k < n
      · obtain ⟨b, o, p, rfl, hp, -, cl0, cl1⟩ := (H.out.below HK.out.below).at_ hlt
        obtain ⟨y1, y2⟩ := rep_at hp
        obtain ⟨g, o2, p', rfl, hp2, -, cp0, cp1⟩ := (RP.of_own HK.out.prow).at_ hlt
        obtain rfl : p = p' := Option.some.inj (y1.symm.trans hp2)
        obtain rfl : o2 = 0 := by
          obtain ⟨A9, c9, e9, -, -, hf⟩ := own_formK HK.out.prow
          cases e9
          obtain ⟨g9, e9, -⟩ := hf (by omega)
          cases e9
          rfl
        rw [Nat.zero_add] at cp0 cp1
        have hgpl := Hgp.out g rfl
        have Y2 := Lib.hid y2
        clear hp y1 y2 hp2
        go_wp2_with fail
        refine wp_region_quiet (C := fun u => ∃ m, u = wr.drewN m) (by kernel_rfl) (by kernel_rfl) ⟨1, rfl⟩ ?_
        simp only []
        repeat (go_big_quiet_step (fail))
        refine wpQuiet_nil ?_
        rintro _ ⟨m, rfl⟩
        have hth : (wr.drewN m).there g (k * 2) (encP chP).toArray.size := there_part (own_there HK.out.prow) (by show k * 2 + 2 ≤ n * 2; omega)
        have hgr := grownBy_setCells (wr.drewN m) g (encP chP) (k * 2) (wr.drewN m) (grownBy_refl _ _)
        have hbxl : bx < (wr.drewN m).heap.size := (Array.getElem?_eq_some_iff.1 HK.out.box).1
        have hN : NwI w w3.heap.size bx n cp N cr (some ⟨g, 0, none⟩) Ar ls L (k + 1) ((wr.drewN m).setCells g (k * 2) (encP chP)) := by
          refine ⟨below_setCells (by have := (HK.out.prow.lt g rfl).1; omega) _ _ _ (below_drewN HK.out.below m), ?_, own_put (w := wr.drewN m) (own_of_block HK.out.rrow fun _ _ => rfl) hgpl hgr, ?_⟩
          · have h5 := own_setPost (x := chP) (i := k) (u := wr.drewN m) (own_of_block HK.out.prow fun _ _ => rfl)
            rw [Y2.out] at h5
            exact h5
          · exact (hgr.block bx hbxl (by intro e; cases e; omega)).trans HK.out.box
        have HNx := Lib.hid hN
        clear hgr hbxl hN hgpl
        go_wp2_with ((with_reducible show wpList _ _ _ (⟨_, Op.store 31 (.tmp 46) _, _, _, _, _⟩ :: _) _ _); refine wpList_store_mid rfl _ _ _ rfl g (k * 2) (encP chP).toArray rfl rfl hth (info_post chP) (all_oneCell_toArray (encP_one chP)) ?_)
        go_roundw
        case rel => exact ⟨k + 1, hlt, by go_num, HNx⟩
        case measure => simp [intOf]; omega
      · obtain rfl : k = n := by omega
        clear HI
        go_wp2_with fail
        have HBw := Lib.hid HK.out.below
        have hrl : RP wr Ar N L := RP.of_own HK.out.rrow
        have hr0 : wr.rangeAt bx 0 [.slice Ar N cr] := rangeAt_blk HK.out.box
        have Hr0 := Lib.hid hr0
        have Hrl := Lib.hid hrl
        clear hrl hr0 HK hpc
        refine wp_region_noPanic ?_
        refine wp_region_movesJ [0, 1] (fun u => Below wr.heap.size wr u) (fun u u' => Below u.heap.size u u') (fun u => Below.refl _ _) (fun h k => h.trans (k.mono h.size)) (by kernel_rfl) (by kernel_rfl) (by kernel_rfl) (below_drewN (Below.refl _ _) 1) (fun _ _ _ _ _ h => h) ?_
        simp only [List.filterMap, List.getElem?_cons_zero, List.getElem?_cons_succ]
        refine wpMH_loadW (fun u => Below.refl _ _) (by rfl) _ _ rfl bx 0 rfl [.slice Ar N cr] _ (fun u hu => rangeAt_below' Hr0.out hu) Try.underlying28 rfl (info_run _) ?_
        simp only [Act.put, List.setIfInBounds_toArray, List.set_cons_zero, List.set_cons_succ]
        refine wpMH_moveW (fun u => Below.refl _ _) (by rfl) _ rfl _ rfl ?_
        simp only [Act.put, List.setIfInBounds_toArray, List.set_cons_zero, List.set_cons_succ]
        refine wpMH_nil ?_
        refine wpAnyM_one 2 (by kernel_rfl) rfl ?_
        simp only [List.getElem_toArray, List.getElem_cons_succ, List.getElem_cons_zero]
        intro u1 hS1 hM1
        clear hM1
        have hr1 : RP u1 A k ls := H.out.below (HBw.out.trans (hS1.mono HBw.out.size))
        have hrn := refNew_any u1 A k c ls hr1 (by omega)
        rw [← HL.out] at hrn
        have HRN := Lib.hid hrn
        have HS1 := Lib.hid hS1
        clear hr1 hrn hS1
        go_wp2_with fail
        refine HRN.out.mono ?_
        rintro e u2 ⟨Aw, cw, rfl, hown2, hb2⟩
        rw [← HN.out] at hown2 ⊢
        have H2 := Lib.hid (And.intro (Below.trans HS1.out (hb2.mono HS1.out.size)) (RP.of_own hown2))
        clear hown2 hb2 HRN HS1
        go_wp2_with fail
        refine ⟨H2.out.1, ?_⟩
        refine wpAnyM_one 3 (by kernel_rfl) rfl ?_
        simp only [List.getElem_toArray, List.getElem_cons_succ, List.getElem_cons_zero]
        intro u3 hS3 hM3
        have hN6 : N ≤ 1000000 := by
          have h5 := newF_length ls
          have h6 := HN.out
          rw [HL.out] at h6
          rw [H.out.1] at h5
          omega
        have hiy := is_yes u3 Ar Aw N cr cw L (Hrl.out.below hS3) (H2.out.2.below hM3) hN6
        have HIY := Lib.hid hiy
        have HS3 := Lib.hid hS3
        clear hiy hS3 hM3 H2
        go_wp2_with fail
        refine HIY.out.mono ?_
        rintro e u4 ⟨rfl, hb4⟩
        have H4 := Lib.hid (Below.trans HS3.out (hb4.mono HS3.out.size))
        clear hb4 HIY HS3
        go_wp2_with fail
        refine ⟨H4.out, ?_⟩
        refine wpAnyM_one 4 (by kernel_rfl) rfl ?_
        simp only [List.getElem_toArray, List.getElem_cons_succ, List.getElem_cons_zero]
        intro u5 hS5 hM5
        have H5 := Lib.hid hS5
        clear hM5 hS5 H4
        go_wp2_with fail
        refine ⟨H5.out, ?_⟩
        refine wpAnyM_one 5 (by kernel_rfl) rfl ?_
        simp only [List.getElem_toArray, List.getElem_cons_succ, List.getElem_cons_zero]
        intro u6 hS6 hM6
        have H6 := Lib.hid hS6
        clear hM6 hS6 H5
        go_wp2_with fail
        refine ⟨H6.out, ?_⟩
        refine wpAnyM_one 6 (by kernel_rfl) rfl ?_
        simp only [List.getElem_toArray, List.getElem_cons_succ, List.getElem_cons_zero]
        intro u7 hS7 hM7
        have hiy := is_yes u7 none none 0 0 0 [] ⟨rfl, fun h => absurd h (by omega)⟩ ⟨rfl, fun h => absurd h (by omega)⟩ (by omega)
        have HIY := Lib.hid hiy
        have H7 := Lib.hid hS7
        clear hM7 hS7 H6 hiy
        go_wp2_with fail
        refine HIY.out.mono ?_
        rintro e u8 ⟨rfl, hb8⟩
        have H8 := Lib.hid (Below.trans H7.out (hb8.mono H7.out.size))
        clear hb8 HIY H7
        go_wp2_with fail
        refine ⟨H8.out, ?_⟩
        refine wpAnyM_one 7 (by kernel_rfl) rfl ?_
        simp only [List.getElem_toArray, List.getElem_cons_succ, List.getElem_cons_zero]
        intro u9 hS9 hM9
        have H9 := Lib.hid hS9
        clear hM9 hS9 H8
        go_wp2_with fail
        refine ⟨H9.out, ?_⟩
        refine wpAnyM_one 8 (by kernel_rfl) rfl ?_
        simp only [List.getElem_toArray, List.getElem_cons_succ, List.getElem_cons_zero]
        intro u10 hS10 hM10
        have H10 := Lib.hid hS10
        clear hM10 hS10 H9
        go_wp2_with fail
        refine ⟨H10.out, ?_⟩
        refine wpAnyM_nil (by kernel_rfl) ?_
        intro u11 hS11 hM11
        have H11 := Lib.hid (HBw.out.trans (hS11.mono HBw.out.size))
        clear hM11 hS11 H10
        refine NoPanic.normal ?_
        go_wp2_with fail
        go_ret
        exact ⟨rfl, H11.out⟩
end Go.Proofs.Ytkfpnilbjjkhgaa
