/-
  THE WALK of cachetlaw19.alive.
-/
import Derived.Test.YtkfpnilbjjkhgaaRnT
namespace Go.Proofs.Ytkfpnilbjjkhgaa
open Go.RowKit Go.Lib Go.Sort

theorem RunPost.rp {ls : List Po} {w : World} {e : Ending} {w' : World} (h : RunPost ls w e w') : ∃ A c, e = .returned (.agg #[.slice A ls.length c]) ∧ RP w' A ls.length ls ∧ ls.length ≤ c ∧ c ≤ maxLen ∧ Below w.heap.size w w' := by
  obtain ⟨A, c, rfl, h1, h2⟩ := h
  obtain ⟨A0, c0, e0, h3, h4, -⟩ := own_formK h1
  cases e0
  exact ⟨A, c, rfl, RP.of_own h1, h3, h4, h2⟩
theorem RV.new (w : World) (vs : List Value) (t : TypeId) (n : Nat) (h : vs.length = n) : RV (w.alloc (.cells vs.toArray t)) (some ⟨w.heap.size, 0, none⟩) n vs :=
  ⟨h, fun _ => ⟨w.heap.size, 0, rfl, rangeAt_blk (heap_alloc_new w _)⟩⟩
def exP : List Po := [([97], 2), ([98], 1), ([97], 1), ([97], 2)]
theorem exP_new : newF exP = [([97], 1), ([97], 2), ([98], 1)] := by decide
theorem exP_keys : keysF (newF exP) = [[97], [98]] := by rw [exP_new]; decide
theorem exP_places : placesF (newF exP) [97] (-9223372036854775808) = [1, 2] := by rw [exP_new]; decide
set_option maxRecDepth 100000 in
set_option maxHeartbeats 1000000 in
theorem alive19_any (w : World) : Calls Try.prog 8 #[] w fun e w' => e = .returned (.bool true) ∧ Below w.heap.size w w' := by
  go_enter Try.func8, Try.ntmps8
  go_wp2_with fail
  have hb1 : Below w.heap.size w (w.alloc (.cells (flatP exP).toArray 31)) := (Below.refl _ _).alloc (Nat.le_refl _) _
  have hr1 : RP (w.alloc (.cells (flatP exP).toArray 31)) (some ⟨w.heap.size, 0, none⟩) 4 exP := ⟨rfl, fun _ => ⟨w.heap.size, 0, rfl, rangeAt_blk (heap_alloc_new w _)⟩⟩
  have HB1 := Lib.hid hb1
  have hnew := new_run _ _ 4 4 exP hr1 (by omega) (by omega)
  have HN := Lib.hid hnew
  clear hnew hr1 hb1
  refine HN.out.mono ?_
  intro e w2 hp
  obtain ⟨A, c, rfl, hr2, hc1, hc2, hb2⟩ := hp.rp
  have hasc := (newF_all exP).1
  have hpl := exP_places
  have hky := exP_keys
  have hln : (newF exP).length = 3 := by rw [exP_new]; rfl
  obtain ⟨L, hL⟩ : ∃ L, L = newF exP := ⟨_, rfl⟩
  rw [← hL] at hr2 hc1 hasc hpl hky hln
  rw [← hL, hln]
  rw [hln] at hr2 hc1
  have HR := Lib.hid hr2
  have HB2 := Lib.hid (HB1.out.trans (hb2.mono HB1.out.size))
  have HPL := Lib.hid hpl
  have HKY := Lib.hid hky
  have Hasc := Lib.hid hasc
  have Hcm := Lib.hid hc2
  clear hp hr2 hb2 hL hpl hky hln HN HB1 hasc hc2
  go_wp2_with fail
  -- the run in its box
  have hc3 : (w2.alloc (.cells #[.slice A 3 c] 28)).heap[w2.heap.size]? = some (.cells #[.slice A 3 c] 28 (0, 0)) := heap_alloc_new w2 _
  have hr3 : RP (w2.alloc (.cells #[.slice A 3 c] 28)) A 3 L := HR.out.below ((Below.refl _ _).alloc (Nat.le_refl _) _)
  have hb3 : Below w.heap.size w (w2.alloc (.cells #[.slice A 3 c] 28)) := HB2.out.alloc HB2.out.size _
  obtain ⟨bx, hbx⟩ : ∃ bx, bx = w2.heap.size := ⟨_, rfl⟩
  obtain ⟨w3, hw3⟩ : ∃ w3, w3 = w2.alloc (.cells #[.slice A 3 c] 28) := ⟨_, rfl⟩
  rw [← hw3] at hc3 hr3 hb3 ⊢
  rw [← hbx] at hc3 ⊢
  have H3 := Lib.hid (And.intro hc3 (And.intro hr3 hb3))
  clear hw3 hbx hc3 hr3 hb3 HR HB2
  refine (runLen_any w3 A 3 c).mono ?_
  rintro e w4 ⟨rfl, hw4⟩
  have hb4 : Below w3.heap.size w3 w4 := by rw [hw4]; exact (Below.refl _ _).alloc (Nat.le_refl _) _
  have k4 : w4.cell? ⟨bx, 0, none⟩ = some (.slice A 3 c) := by rw [cell_of_row _ _ _ _ _ _ (heap_below H3.out.1 hb4)]; rfl
  have H4 := Lib.hid (And.intro (heap_below H3.out.1 hb4) (And.intro (H3.out.2.1.below hb4) (H3.out.2.2.trans (hb4.mono H3.out.2.2.size))))
  clear hw4 hb4 H3
  go_wp2_with fail
  refine (of_any w4 A 3 c L (by omega) (by omega) Hcm.out Hasc.out [97] H4.out.2.1).mono ?_
  rw [HPL.out]
  rintro e w5 ⟨A5, c5, rfl, hown5, hb5⟩
  have k5 : w5.cell? ⟨bx, 0, none⟩ = some (.slice A 3 c) := by rw [cell_of_row _ _ _ _ _ _ (heap_below H4.out.1 hb5)]; rfl
  have H5 := Lib.hid (And.intro (heap_below H4.out.1 hb5) (And.intro (H4.out.2.1.below hb5) (And.intro (H4.out.2.2.trans (hb5.mono H4.out.2.2.size)) (own_rv hown5))))
  clear hown5 hb5 k4 H4
  rw [show ([1, 2] : List Int).length = 2 from rfl]
  go_wp2_with fail
  have hb6 : Below w5.heap.size w5 (w5.alloc (.cells #[.int .i64 1, .int .i64 2] 3)) := (Below.refl _ _).alloc (Nat.le_refl _) _
  have hrv6 : RV (w5.alloc (.cells #[.int .i64 1, .int .i64 2] 3)) (some ⟨w5.heap.size, 0, none⟩) 2 (([1, 2] : List Int).map I64v) := RV.new w5 _ _ 2 rfl
  have hint := ints_any (w5.alloc (.cells #[.int .i64 1, .int .i64 2] 3)) A5 (some ⟨w5.heap.size, 0, none⟩) 2 2 c5 2 [1, 2] [1, 2] (H5.out.2.2.2.below hb6) hrv6 (by omega) (by omega)
  rw [decide_eq_true rfl] at hint
  have HI := Lib.hid hint
  have HB6 := Lib.hid hb6
  clear hint hrv6 hb6
  refine HI.out.mono ?_
  rintro e w7 ⟨rfl, q, hq⟩
  have hb7 : Below w5.heap.size w5 w7 := by rw [hq]; exact below_drewN HB6.out q
  have k7 : w7.cell? ⟨bx, 0, none⟩ = some (.slice A 3 c) := by rw [cell_of_row _ _ _ _ _ _ (heap_below H5.out.1 hb7)]; rfl
  have H7 := Lib.hid (And.intro (heap_below H5.out.1 hb7) (And.intro (H5.out.2.1.below hb7) (H5.out.2.2.1.trans (hb7.mono H5.out.2.2.1.size))))
  clear hq hb7 HI HB6 k5 H5
  go_wp2_with fail
  refine (keys_any w7 A 3 c L H7.out.2.1 (by omega)).mono ?_
  rw [HKY.out]
  rintro e w8 ⟨A8, c8, rfl, hown8, hb8⟩
  have H8 := Lib.hid (And.intro (H7.out.2.2.trans (hb8.mono H7.out.2.2.size)) (own_rv hown8))
  clear hown8 hb8 k7 H7
  rw [show ([[97], [98]] : List (List UInt8)).length = 2 from rfl]
  go_wp2_with fail
  have hb9 : Below w8.heap.size w8 (w8.alloc (.cells #[.string ⟨#[97]⟩, .string ⟨#[98]⟩] 9)) := (Below.refl _ _).alloc (Nat.le_refl _) _
  have hrv9 : RV (w8.alloc (.cells #[.string ⟨#[97]⟩, .string ⟨#[98]⟩] 9)) (some ⟨w8.heap.size, 0, none⟩) 2 (([[97], [98]] : List (List UInt8)).map Str) := RV.new w8 _ _ 2 rfl
  have htx := texts_any (w8.alloc (.cells #[.string ⟨#[97]⟩, .string ⟨#[98]⟩] 9)) A8 (some ⟨w8.heap.size, 0, none⟩) 2 2 c8 2 [[97], [98]] [[97], [98]] (H8.out.2.below hb9) hrv9 (by omega) (by omega)
  rw [decide_eq_true rfl] at htx
  have HT := Lib.hid htx
  have HB9 := Lib.hid (H8.out.1.trans (hb9.mono H8.out.1.size))
  clear htx hrv9 hb9
  refine HT.out.mono ?_
  rintro e w10 ⟨rfl, q, hq⟩
  have HB10 : Hid (Below w.heap.size w w10) := Lib.hid (by rw [hq]; exact below_drewN HB9.out q)
  clear hq
  go_wp2_with fail
  go_ret
  exact ⟨rfl, HB10.out⟩
end Go.Proofs.Ytkfpnilbjjkhgaa
