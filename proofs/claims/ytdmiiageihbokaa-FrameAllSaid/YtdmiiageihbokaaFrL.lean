/-
  THE WALK of the law FrameAll, at its ends.
-/
import Derived.Test.YtdmiiageihbokaaFrK
namespace Go.Proofs.Ytdmiiageihbokaa
open Go.RowKit Go.Shelf Go.ChangeShapes Go.WideShapes Go.ChangeAt
attribute [local go_sem] Oper.semAt_some

theorem frameAll_long (w : World) (A : Option Addr) (n c : Nat) (hcm : c ≤ maxLen) (hc : n ≤ c) (hn : 10000 < n) (a : Int) :
    Calls Try.prog 9 #[.slice A n c, .int .i64 a] w fun e w' => e = .returned (.bool true) ∧ Below w.heap.size w w' := by
  unfold maxLen at hcm
  go_enter Try.func9, Try.ntmps9
  go_wp2_with fail
  refine (alive7_any _).mono ?_
  rintro e w1 ⟨rfl, hb1⟩
  have hb01 : Below w.heap.size w w1 := (((Below.refl _ _).alloc (Nat.le_refl _) _).alloc (by simp) _).trans (hb1.mono (by simp; omega))
  have r1 : w1.heap[w.heap.size + 1]? = some (.cells #[.bool false] 4 (0, 0)) := heap_below (by have := heap_alloc_new (w.alloc (.cells #[.int .i64 a] 3)) (.cells #[.bool false] 4); simpa using this) hb1
  have cr1 : w1.cell? ⟨w.heap.size + 1, 0, none⟩ = some (.bool false) := by rw [cell_of_row _ _ _ _ _ _ r1]; rfl
  have fr1 := frozen_blk r1 0
  have hn' : (10000 : Int) < (n : Int) := by omega
  have R1 := Lib.hid r1
  clear r1 hb1
  go_wp2
  have r8 : (w1.setCell ⟨w.heap.size + 1, 0, none⟩ (.bool true)).heap[w.heap.size + 1]? = some (.cells #[.bool true] 4 (0, 0)) := by
    rw [heap_setCell_same _ _ 0 _ _ _ R1.out]; rfl
  have c8 : (w1.setCell ⟨w.heap.size + 1, 0, none⟩ (.bool true)).cell? ⟨w.heap.size + 1, 0, none⟩ = some (.bool true) := by rw [cell_of_row _ _ _ _ _ _ r8]; rfl
  refine bodyPost_ret (results_cell_bool rfl _ _ _ (w.heap.size + 1) (.bool true) rfl c8 Try.underlying4) rfl ?_
  exact ⟨rfl, hb01.setCell (p := ⟨w.heap.size + 1, 0, none⟩) (by simp) _⟩

theorem frameAll_law (w : World) (v0 : Value) (b0 : List UInt8) (h0 : SB w v0 b0) (a : Int) (ha : (Lit.int .i64 a).wf = true) :
    Calls Try.prog 9 #[v0, .int .i64 a] w fun e w' => e = .returned (.bool true) ∧ Below w.heap.size w w' := by
  obtain ⟨A, n, c, rfl, hc, hcm, hA⟩ := h0
  by_cases h1 : n ≤ 10000
  · exact frameAll_any w A n c b0 hA hc hcm h1 a ha
  · exact frameAll_long w A n c hcm hc (by omega) a
end Go.Proofs.Ytdmiiageihbokaa
