/-
  THE WALKS of Post.compare, and of SortFunc, Clone at posts.
-/
import Derived.Test.YtkfpnilbjjkhgaaRnB
import Derived.Test.YtkfpnilbjjkhgaaRnL
import Derived.Test.YtkfpnilbjjkhgaaRnP
namespace Go.Proofs.Ytkfpnilbjjkhgaa
open Go.RowKit Go.Lib Go.Sort

def encP (p : Po) : List Value := [.string ⟨p.1.toArray⟩, .int .i64 p.2]
def PV (p : Po) : Value := .agg #[.string ⟨p.1.toArray⟩, .int .i64 p.2]
def flatP (ls : List Po) : List Value := ls.flatMap encP
theorem encP_len (p : Po) : (encP p).length = 2 := rfl
theorem encP_one (p : Po) : ∀ v ∈ encP p, v.oneCell' = true := fun v hv => by simp [encP] at hv; rcases hv with rfl | rfl <;> rfl
theorem flatP_len (ls : List Po) : (flatP ls).length = ls.length * 2 := by
  induction ls with
  | nil => rfl
  | cons x r ih => rw [flatP, List.flatMap_cons, List.length_append, encP_len, ← flatP, ih, List.length_cons]; omega
theorem flatP_one (ls : List Po) : ∀ v ∈ flatP ls, v.oneCell' = true := fun v hv => by
  obtain ⟨p, -, h⟩ := List.mem_flatMap.1 hv
  exact encP_one p v h
theorem flatP_app (a b : List Po) : flatP (a ++ b) = flatP a ++ flatP b := by simp [flatP]
theorem info_post3 : (Try.prog.info? 31).map (fun i => (i.zero, i.size, i.bytes)) = some (some (.agg #[.string ⟨#[]⟩, .int .i64 0]), 2, 24) := by kernel_rfl
theorem info_post (p : Po) : (Try.prog.info? 31).map (·.size) = some (encP p).length := by kernel_rfl
set_option maxRecDepth 100000 in
theorem or_two (u : World) (b : Nat) (c1 c2 : Int) (h1 : u.cell? ⟨b, 0, none⟩ = some (.int .i64 c1)) (h2 : u.cell? ⟨b, 1, none⟩ = some (.int .i64 c2)) :
    Calls Try.prog 38 #[.slice (some ⟨b, 0, none⟩) 2 2] u fun e w' => e = .returned (.int .i64 (if c1 ≠ 0 then c1 else c2)) ∧ w' = u := by
  by_cases e1 : c1 = 0
  · subst e1
    rw [if_neg (by simp)]
    by_cases e2 : c2 = 0
    · subst e2
      go_enter Try.func38, Try.ntmps38
      go_wp2
      refine wp_loop_rounds 3 ?_
      repeat (rw [rounds_succ]; go_wp2)
      go_ret
      exact ⟨rfl, rfl⟩
    · have n2 : (c2 != 0) = true := by rw [bne_iff_ne]; exact e2
      go_enter Try.func38, Try.ntmps38
      go_wp2
      refine wp_loop_rounds 3 ?_
      repeat (rw [rounds_succ]; go_wp2)
      go_ret
      exact ⟨rfl, rfl⟩
  · have n1 : (c1 != 0) = true := by rw [bne_iff_ne]; exact e1
    rw [if_pos e1]
    go_enter Try.func38, Try.ntmps38
    go_wp2
    refine wp_loop_rounds 3 ?_
    repeat (rw [rounds_succ]; go_wp2)
    go_ret
    exact ⟨rfl, rfl⟩
set_option maxRecDepth 100000 in
theorem cmp_any (p q : Po) (W : World) : Calls Try.prog 23 #[PV p, PV q] W fun e w' => e = .returned (.int .i64 (cmpP p q)) ∧ ∃ k os, w' = grow (W.drewN k) os := by
  have hC1 := fun u => strings_Compare ⟨p.1.toArray⟩ ⟨q.1.toArray⟩ u
  have hC2 := fun u => cmp_Compare_int p.2 q.2 u
  have hOr := or_two
  obtain ⟨r, hr⟩ : ∃ r, r = cmpP p q := ⟨_, rfl⟩
  rw [← hr]
  have hr' := hr
  unfold cmpP at hr'
  simp only at hC1
  obtain ⟨c1, hc1⟩ : ∃ c1, c1 = compareBytes p.1 q.1 := ⟨_, rfl⟩
  obtain ⟨c2, hc2⟩ : ∃ c2, c2 = compareInt p.2 q.2 := ⟨_, rfl⟩
  rw [← hc1, ← hc2] at hr'
  rw [← hc1] at hC1
  rw [← hc2] at hC2
  have HC1 := Lib.hid hC1
  have HC2 := Lib.hid hC2
  have HOr := Lib.hid hOr
  have Hr := Lib.hid hr'
  have eg1 := enters_of Try.func39 (by kernel_rfl) rfl
  have eg2 := enters_of Try.func40 (by kernel_rfl) rfl
  obtain ⟨W2, hW2⟩ : ∃ W2, W2 = (W.alloc (.cells (encP p).toArray 31)).alloc (.cells (encP q).toArray 31) := ⟨_, rfl⟩
  have hS2 : (∃ k os, W2 = grow (W.drewN k) os) ∧ W2.rangeAt W.heap.size 0 (encP p) ∧ W2.rangeAt (W.heap.size + 1) 0 (encP q) := by
    rw [hW2]
    refine ⟨⟨0, _, by rw [alloc_eq_grow, alloc_eq_grow, grow_grow]; rfl⟩, ?_, rangeAt_at _ _ _ _ _ (by simp)⟩
    exact rangeAt_below' (rangeAt_at _ _ _ _ _ rfl) ((Below.refl _ _).alloc (Nat.le_refl _) _)
  have hsd : (∃ k os, W2.drew = grow (W.drewN k) os) ∧ W2.drew.rangeAt W.heap.size 0 (encP p) ∧ W2.drew.rangeAt (W.heap.size + 1) 0 (encP q) := by
    obtain ⟨⟨k, os, h1⟩, h2, h3⟩ := hS2
    exact ⟨⟨k + 1, os, by rw [h1]; rfl⟩, h2, h3⟩
  have HW2 := Lib.hid hW2
  clear hC1 hC2 hOr hr hr' hc1 hc2 hW2 hS2
  unfold PV
  go_enter Try.func23, Try.ntmps23
  go_wp2_with fail
  rw [show (W.alloc (.cells #[.string ⟨p.1.toArray⟩, .int .i64 p.2] 31)).alloc (.cells #[.string ⟨q.1.toArray⟩, .int .i64 q.2] 31) = W2 from HW2.out.symm]
  refine wp_region_noPanic ?_
  refine wp_region_moves 10 (fun u => (∃ k os, u = grow (W.drewN k) os) ∧ u.rangeAt W.heap.size 0 (encP p) ∧ u.rangeAt (W.heap.size + 1) 0 (encP q)) (fun u u' => u = u') (fun u => rfl) (fun h k => h.trans k) (by kernel_rfl) (by kernel_rfl) hsd (fun _ _ _ _ _ h => h) ?_
  simp only [List.take_succ_cons, List.take_zero, List.drop_succ_cons, List.drop_zero]
  refine wpMH_pureW (fun u => rfl) (by rfl) (.pointer (some ⟨W.heap.size, 0, none⟩)) (fun u hu => by go_simp) ?_
  simp only [Act.put, List.setIfInBounds_toArray, List.set_cons_zero, List.set_cons_succ]
  refine wpMH_pureW (fun u => rfl) (by rfl) (.string ⟨p.1.toArray⟩) (fun u hu => by have hc := hu.2.1 0 _ rfl; go_simp) ?_
  simp only [Act.put, List.setIfInBounds_toArray, List.set_cons_zero, List.set_cons_succ]
  refine wpMH_pureW (fun u => rfl) (by rfl) (.pointer (some ⟨W.heap.size + 1, 0, none⟩)) (fun u hu => by go_simp) ?_
  simp only [Act.put, List.setIfInBounds_toArray, List.set_cons_zero, List.set_cons_succ]
  refine wpMH_pureW (fun u => rfl) (by rfl) (.string ⟨q.1.toArray⟩) (fun u hu => by have hc := hu.2.2 0 _ rfl; go_simp) ?_
  simp only [Act.put, List.setIfInBounds_toArray, List.set_cons_zero, List.set_cons_succ]
  refine wpMH_callW (by rfl) 39 _ _ rfl eg1 [.string ⟨p.1.toArray⟩, .string ⟨q.1.toArray⟩] rfl (.int .i64 c1) (fun u h => (HC1.out u).mono fun e w' ⟨h1, h2⟩ => ⟨h1, h2 ▸ h, h2.symm⟩) ?_
  simp only [Act.put, List.setIfInBounds_toArray, List.set_cons_zero, List.set_cons_succ]
  refine wpMH_pureW (fun u => rfl) (by rfl) (.pointer (some ⟨W.heap.size, 1, none⟩)) (fun u hu => by go_simp) ?_
  simp only [Act.put, List.setIfInBounds_toArray, List.set_cons_zero, List.set_cons_succ]
  refine wpMH_pureW (fun u => rfl) (by rfl) (.int .i64 p.2) (fun u hu => by have hc := hu.2.1 1 _ rfl; go_simp) ?_
  simp only [Act.put, List.setIfInBounds_toArray, List.set_cons_zero, List.set_cons_succ]
  refine wpMH_pureW (fun u => rfl) (by rfl) (.pointer (some ⟨W.heap.size + 1, 1, none⟩)) (fun u hu => by go_simp) ?_
  simp only [Act.put, List.setIfInBounds_toArray, List.set_cons_zero, List.set_cons_succ]
  refine wpMH_pureW (fun u => rfl) (by rfl) (.int .i64 q.2) (fun u hu => by have hc := hu.2.2 1 _ rfl; go_simp) ?_
  simp only [Act.put, List.setIfInBounds_toArray, List.set_cons_zero, List.set_cons_succ]
  refine wpMH_callW (by rfl) 40 _ _ rfl eg2 [.int .i64 p.2, .int .i64 q.2] rfl (.int .i64 c2) (fun u h => (HC2.out u).mono fun e w' ⟨h1, h2⟩ => ⟨h1, h2 ▸ h, h2.symm⟩) ?_
  simp only [Act.put, List.setIfInBounds_toArray, List.set_cons_zero, List.set_cons_succ]
  refine wpMH_nil ?_
  obtain ⟨wd, hwd⟩ : ∃ wd, wd = W2.drew := ⟨_, rfl⟩
  rw [← hwd] at hsd ⊢
  clear hwd
  refine wpMT_cons ?_
  rintro u1 - rfl
  go_wp2_with fail
  obtain ⟨wa, hwa⟩ : ∃ wa, wa = wd.alloc (.cells #[.int .i64 c1, .int .i64 c2] 3) := ⟨_, rfl⟩
  have hal : Below wd.heap.size wd wa := by rw [hwa]; exact (Below.refl _ _).alloc (Nat.le_refl _) _
  have hsa : (∃ k os, wa = grow (W.drewN k) os) ∧ wa.rangeAt W.heap.size 0 (encP p) ∧ wa.rangeAt (W.heap.size + 1) 0 (encP q) := by
    obtain ⟨⟨k, os, h1⟩, h2, h3⟩ := hsd
    refine ⟨⟨k, os ++ #[.cells #[.int .i64 c1, .int .i64 c2] 3], ?_⟩, rangeAt_below' h2 hal, rangeAt_below' h3 hal⟩
    rw [hwa, h1, alloc_eq_grow, grow_grow]
  have hg1 : wa.cell? ⟨wd.heap.size, 0, none⟩ = some (.int .i64 c1) := by rw [hwa, cell_of_row _ _ _ _ _ _ (heap_alloc_new wd _)]; rfl
  have hg2 : wa.cell? ⟨wd.heap.size, 1, none⟩ = some (.int .i64 c2) := by rw [hwa, cell_of_row _ _ _ _ _ _ (heap_alloc_new wd _)]; rfl
  have hO := HOr.out wa wd.heap.size c1 c2 hg1 hg2
  rw [← Hr.out] at hO
  have HO := Lib.hid hO
  have HSa := Lib.hid hsa
  rw [← hwa]
  clear hwa hal hg1 hg2 hO hsd
  first | refine ⟨HSa.out, ?_⟩ | skip
  refine wpMT_cons ?_
  rintro u2 - rfl
  go_wp2_with fail
  refine HO.out.mono ?_
  rintro e w9 ⟨rfl, rfl⟩
  go_wp2_with fail
  first | refine ⟨HSa.out, ?_⟩ | skip
  refine wpMT_cons ?_
  rintro u3 - rfl
  go_wp2_with fail
  first | refine ⟨HSa.out, ?_⟩ | skip
  refine wpMT_nil ?_
  rintro u4 - rfl
  refine NoPanic.normal ?_
  go_wp2_with fail
  go_ret
  exact ⟨rfl, HSa.out.1⟩
end Go.Proofs.Ytkfpnilbjjkhgaa
