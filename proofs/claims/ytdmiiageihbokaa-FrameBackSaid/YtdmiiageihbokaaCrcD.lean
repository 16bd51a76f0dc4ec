/-
  THE WALKS of cachetlaw02.alive and the law CrcOf.
-/
import Derived.Test.YtdmiiageihbokaaCrcC
import Derived.Test.YtdmiiageihbokaaNum
namespace Go.Proofs.Ytdmiiageihbokaa
open Go.RowKit

theorem alive_any (w : World) : Calls Try.prog 13 #[] w fun e w' => e = .returned (.bool true) ∧ Below w.heap.size w w' := by
  have kc := run_bytes_lit (P := Try.prog) Try.underlying22 Try.underlying5
  go_enter Try.func13, Try.ntmps13
  go_wp2_with fail
  refine (of_any _ _ [[49, 50, 51, 52], [53, 54, 55, 56, 57]] (SBs.two (SB.of_rangeAt (b := w.heap.size) (o := 0) (n := 4) (c := 4) ?_ rfl (by decide) (by decide)) (SB.of_rangeAt (b := w.heap.size + 1) (o := 0) (n := 5) (c := 5) ?_ rfl (by decide) (by decide)) (RV.of_rangeAt ?_ rfl))).mono ?_
  · exact World.rangeAt_alloc (World.rangeAt_alloc (rangeAt_at w _ _ _ _ rfl) _) _
  · exact World.rangeAt_alloc (rangeAt_at _ _ _ _ _ (by simp)) _
  · exact rangeAt_at _ _ _ _ _ (by simp)
  · rintro e w1 ⟨rfl, hb⟩
    rw [show W32 (crcSum [[49, 50, 51, 52], [53, 54, 55, 56, 57]].flatten) = .int .u32 3421780262 from by rw [show [[49, 50, 51, 52], [53, 54, 55, 56, 57]].flatten = ([49, 50, 51, 52, 53, 54, 55, 56, 57] : List UInt8) from rfl, alive_sum]; rfl]
    go_wp2
    go_ret
    exact ⟨rfl, ((((Below.refl _ _).alloc (Nat.le_refl _) _).alloc (by simp) _).alloc (by simp; omega) _).trans (hb.mono (by simp; omega))⟩

/-! ### The law CrcOf -/
theorem crcOf_big (w : World) (A B : Option Addr) (n m c d : Nat) (h : 5000 < n ∨ 5000 < m) (hn : n ≤ maxLen) (hm : m ≤ maxLen) :
    Calls Try.prog 3 #[.slice A n c, .slice B m d] w fun e w' => e = .returned (.bool true) ∧ Below w.heap.size w w' := by
  unfold maxLen at hn hm
  by_cases h1 : 5000 < n
  · go_enter Try.func3, Try.ntmps3
    go_wp2_with (go_at_call 13; refine (alive_any _).mono ?_; rintro e w1 ⟨rfl, hb1⟩)
    go_ret
    exact ⟨rfl, hb1⟩
  · have h2 : 5000 < m := by omega
    go_enter Try.func3, Try.ntmps3
    go_wp2_with (go_at_call 13; refine (alive_any _).mono ?_; rintro e w1 ⟨rfl, hb1⟩)
    go_ret
    exact ⟨rfl, hb1⟩
theorem crcOf_small (w : World) (A B : Option Addr) (n m c d : Nat) (xs bs : List UInt8) (hA : RB w A n xs) (hB : RB w B m bs) (hc : n ≤ c) (hcm : c ≤ maxLen) (hn : n ≤ 5000) (hm : m ≤ 5000) :
    Calls Try.prog 3 #[.slice A n c, .slice B m d] w fun e w' => e = .returned (.bool true) ∧ Below w.heap.size w w' := by
  go_enter Try.func3, Try.ntmps3
  go_wp2_with (go_at_call 13; refine (alive_any _).mono ?_; rintro e w1 ⟨rfl, hb1⟩)
  refine (copy_any _ B m d bs (hB.below hb1) (by omega)).mono ?_
  rintro e w2 ⟨g, rfl, hg, hcur, hb2⟩
  have hb2' : Below w.heap.size w w2 := hb1.trans (hb2.mono hb1.size)
  have hA2 := hA.below hb2'
  have hB2 := hB.below hb2'
  clear hA hB
  go_wp2_with (first
    | (at_builtin; refine wpList_append_row rfl (.tmp 19) (.tmp 20) 22 rfl w2 ((Below.refl _ _).alloc (Nat.le_refl _) _) Try.underlying22 info_u8 rfl (by decide) (.slice (some ⟨w2.heap.size, 0, none⟩) 0 0) 0 [] rfl (ownsRow_empty w2 _ _ (Nat.le_refl _)) A n c (xs.map B8) rfl ((hA2.below ((Below.refl _ _).alloc (Nat.le_refl _) _)).rc) (by rw [List.length_map, hA2.len]; omega) (b8_oneCell xs) (by unfold maxLen; omega) (by omega) ?_; intro v3 w3 hown3 hb3; rw [List.nil_append] at hown3)
    | (at_builtin; refine wpList_append_row rfl (.tmp 21) (.tmp 22) 22 rfl w2 hb3 Try.underlying22 info_u8 rfl (by decide) v3 (0 + n) _ rfl hown3 B m d (bs.map B8) rfl ((hB2.below hb3).rc) (by rw [List.length_map, hB2.len]; omega) (b8_oneCell bs) (by unfold maxLen; omega) (by omega) ?_; intro v4 w4 hown4 hb4; rw [← List.map_append] at hown4))
  have hlen : (xs ++ bs).length ≤ 1000000 := by rw [List.length_append, RB.len hA2, RB.len hB2]; omega
  refine (refOf_sb w4 v4 (xs ++ bs) (SB.of_own hown4) hlen).mono ?_
  rintro e w5 ⟨rfl, rfl⟩
  have hA4 : SB w4 (.slice A n c) xs := ⟨A, n, c, rfl, hc, hcm, hA2.below hb4⟩
  have hg4 : g < w2.heap.size := (Array.getElem?_eq_some_iff.1 hcur.out).1
  have hcur4 : Hid (w4.heap[g]? = some (.cells (bs.map B8 ++ [B8 165, B8 90]).toArray 5 (0, 0))) := (hb4.block g hg4).trans hcur.out
  have hB4 := hB2.below hb4
  have hC4 := copyPost_sb hcur4.out hB4.len (by omega)
  have hb4' : Below w.heap.size w w4 := hb2'.trans (hb4.mono hb2'.size)
  clear hcur hA2 hB2 hown3 hb3 hown4 hb1 hb2 hb2' hb4 hg
  obtain ⟨s, hs⟩ : ∃ s, s = crcSum (xs ++ bs) := ⟨_, rfl⟩
  rw [← hs]
  have hs2 : s = crcMore (crcSum xs) bs := by rw [hs, crcSum_append]
  have Hs := Lib.hid hs
  have Hs2 := Lib.hid hs2
  clear hs hs2
  unfold W32
  go_wp2_with fail
  have hbA : Below w4.heap.size w4 (w4.alloc (.cells #[.slice A n c, .slice (some ⟨g, 0, none⟩) m (m + 2)] 22)) := (Below.refl _ _).alloc (Nat.le_refl _) _
  refine (of_any _ _ [xs, bs] (SBs.two (hA4.below hbA) (hC4.below hbA) (RV.of_rangeAt (rangeAt_at _ _ _ _ _ rfl) rfl))).mono ?_
  rintro e w6 ⟨rfl, hb6⟩
  have hb46 : Below w4.heap.size w4 w6 := hbA.trans (hb6.mono (by simp))
  rw [show ([xs, bs] : List (List UInt8)).flatten = xs ++ bs by simp, ← Hs.out]
  unfold W32
  clear hb6 hbA
  go_wp2_with fail
  have hA6 := hA4.below hb46
  refine (refOf_sb w6 _ xs hA6 (by rw [List.length_append] at hlen; omega)).mono ?_
  rintro e w7 ⟨rfl, rfl⟩
  go_wp2_with fail
  refine (more_sb w6 (crcSum xs) _ bs (hC4.below hb46)).mono ?_
  rintro e w8 ⟨rfl, hb8⟩
  rw [← Hs2.out]
  unfold W32
  have hb48 : Below w4.heap.size w4 w8 := hb46.trans (hb8.mono hb46.size)
  clear hb8 hb46 hA6
  go_wp2_with fail
  have hg4' : g < w4.heap.size := (Array.getElem?_eq_some_iff.1 hcur4.out).1
  refine (kept_true w8 g B m d bs ((hb48.block g hg4').trans hcur4.out) (hB4.below hb48) (by omega)).mono ?_
  rintro e w9 ⟨rfl, rfl⟩
  go_wp2_with fail
  go_ret
  exact ⟨rfl, hb4'.trans (hb48.mono hb4'.size)⟩
theorem crcOf_law (w : World) (v0 : Value) (b0 : List UInt8) (h0 : SB w v0 b0) (v1 : Value) (b1 : List UInt8) (h1 : SB w v1 b1) :
    Calls Try.prog 3 #[v0, v1] w fun e w' => e = .returned (.bool true) ∧ Below w.heap.size w w' := by
  obtain ⟨A, n, c, rfl, hc, hcm, hA⟩ := h0
  obtain ⟨B, m, d, rfl, hd, hdm, hB⟩ := h1
  by_cases h : 5000 < n ∨ 5000 < m
  · exact crcOf_big w A B n m c d h (by omega) (by omega)
  · exact crcOf_small w A B n m c d b0 b1 hA hB hc hcm (by omega) (by omega)
end Go.Proofs.Ytdmiiageihbokaa
