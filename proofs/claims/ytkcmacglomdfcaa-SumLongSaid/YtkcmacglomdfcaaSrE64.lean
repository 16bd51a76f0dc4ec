/-
  THE WALK of the law SumLong.
-/
import Derived.Test.YtkcmacglomdfcaaSrD64
import Derived.Test.YtkcmacglomdfcaaSumK
import Derived.Test.YtkcmacglomdfcaaSlices
namespace Go.Proofs.Ytkcmacglomdfcaa
open Go.RowKit

set_option maxHeartbeats 1000000 in
theorem sumLong_law (w : World) (v0 : Value) (text : List UInt8) (h0 : SB w v0 text) :
    Calls Try.prog 4 #[v0] w fun e w' => e = .returned (.bool true) ∧ Below w.heap.size w w' := by
  obtain ⟨B, m, d, rfl, hd, hdm, hB⟩ := h0
  have hdm' := hdm
  unfold maxLen at hdm
  by_cases hbig : 5000 < m
  · go_enter Try.func4, Try.ntmps4
    go_wp2_with (go_at_call 23; refine (alive1_any _).mono ?_; rintro e w1 ⟨rfl, hb1⟩)
    go_ret
    exact ⟨rfl, hb1⟩
  · have hlen := hB.len
    have hP := long_any
    have hR := ref64_any
    have hDl := digest64_len K64 H64
    generalize digest64 K64 H64 = F at hP hR hDl
    have HP := Lib.hid hP
    have HR := Lib.hid hR
    have HDl := Lib.hid hDl
    clear hP hR hDl
    go_enter Try.func4, Try.ntmps4
    go_wp2_with (go_at_call 23; refine (alive1_any _).mono ?_; rintro e w1 ⟨rfl, hb1⟩)
    refine (copy_any _ B m d text (hB.below hb1) (by omega)).mono ?_
    rintro e w2 ⟨g, rfl, hg, hcur, hb2⟩
    have hb02 : Below w.heap.size w w2 := hb1.trans (hb2.mono hb1.size)
    have hB2 := hB.below hb02
    have hC2 := copyPost_sb hcur.out hB2.len (by omega)
    have Hlen := Lib.hid hlen
    clear hlen
    go_wp2_with fail
    have hbA : Below w2.heap.size w2 (w2.alloc (.cells #[.slice (some ⟨g, 0, none⟩) m (m + 2)] 22)) := (Below.refl _ _).alloc (Nat.le_refl _) _
    have hflat : [text].flatten = text := by simp
    refine (HP.out _ _ [text] (SBs.one (hC2.below hbA) (Nat.le_refl _) (by decide) (RV.of_rangeAt (rangeAt_at _ _ _ _ _ rfl) rfl)) (by rw [hflat, Hlen.out]; omega)).mono ?_
    rintro e w3 ⟨rfl, hb3⟩
    rw [hflat]
    have hb23 : Below w2.heap.size w2 w3 := hbA.trans (hb3.mono (by simp))
    clear hflat hb3 hbA
    go_wp2_with fail
    refine (HR.out _ B m d text (hB2.below hb23) (by omega)).mono ?_
    rintro e w4 ⟨rfl, hb4⟩
    have hb24 : Below w2.heap.size w2 w4 := hb23.trans (hb4.mono hb23.size)
    have hb04 : Below w.heap.size w w4 := hb02.trans (hb24.mono hb02.size)
    have hB4 := hB2.below hb24
    have hcur4 : Hid (w4.heap[g]? = some (.cells (text.map B8 ++ [B8 165, B8 90]).toArray 5 (0, 0))) := Lib.hid (heap_below hcur.out hb24)
    have he1 := fun w => run_eql_wide w (F text) (F text) (HDl.out _) (HDl.out _)
    rw [beq_self_eq_true] at he1
    clear hb4 hb24 hb23 hb2 hb1 hcur hC2 hB2 hB hg
    go_wp2_with fail
    refine (kept_true w4 g B m d text hcur4.out hB4 (by omega)).mono ?_
    rintro e w9 ⟨rfl, rfl⟩
    go_wp2_with fail
    go_ret
    exact ⟨rfl, hb04⟩
end Go.Proofs.Ytkcmacglomdfcaa
