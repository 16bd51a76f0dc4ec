/-
  THE ANSWER'S CONSTANTS: the walks of cachetref01.Table and Roots.
-/
import Derived.Test.YtkcmacglomdfcaaSumI
namespace Go.Proofs.Ytkcmacglomdfcaa
open Go.RowKit

theorem ref_table (w : World) : Calls Try.prog 79 #[] w fun e w' => e = .returned (.slice (some ⟨w.heap.size, 0, none⟩) 80 80) ∧ w.alloc (.cells (K64.map V64).toArray 107) = w' := by
  go_enter Try.func79, Try.ntmps79
  go_wp2_with ((with_reducible show wpList _ _ _ (⟨_, Op.buildSlice _ _ _, _, _, _, _⟩ :: _) _ _); refine wpList_buildFlat rfl 105 107 80 _ rfl .u64 K64z Try.underlying105 (by kernel_rfl) (by kernel_rfl) (by kernel_rfl) (by decide) (by decide) (by kernel_rfl) ?_)
  go_ret
  exact ⟨rfl, by rw [K64z_eq]⟩
def H64z : List Int := [frac2 2, frac2 3, frac2 5, frac2 7, frac2 11, frac2 13, frac2 17, frac2 19].map fun x => (x.toNat : Int)
theorem H64z_eq : H64z.map (Value.int .u64) = cells64 H64 := rfl
theorem ref_roots (w : World) : Calls Try.prog 78 #[] w fun e w' => e = .returned (.slice (some ⟨w.heap.size, 0, none⟩) 8 8) ∧ w.alloc (.cells (cells64 H64).toArray 107) = w' := by
  go_enter Try.func78, Try.ntmps78
  go_wp2_with ((with_reducible show wpList _ _ _ (⟨_, Op.buildSlice _ _ _, _, _, _, _⟩ :: _) _ _); refine wpList_buildFlat rfl 105 107 8 _ rfl .u64 H64z Try.underlying105 (by kernel_rfl) (by kernel_rfl) (by kernel_rfl) (by decide) (by decide) (by kernel_rfl) ?_)
  go_ret
  exact ⟨rfl, by rw [H64z_eq]⟩
theorem own_blk {w : World} {B : Nat} {e : TypeId} {v : Value} {n : Nat} {xs : List Value} (h : w.ownsRow B e 1 v n xs) (hn : 0 < n) :
    ∃ g c cur, v = .slice (some ⟨g, 0, none⟩) n c ∧ B ≤ g ∧ w.heap[g]? = some (.cells cur e (0, 0)) ∧ ∀ i, i < n → cur[i]? = xs[i]? := by
  have hl : xs.length = n := by simpa using h.1
  rcases h.2 with ⟨rfl, rfl⟩ | ⟨g, cap, cur, rfl, hB, hh, hnc, hcm, hcs, htake⟩
  · have := h.1
    simp at this
    omega
  · refine ⟨g, cap, cur, rfl, hB, hh, fun i hi => ?_⟩
    rw [← htake, List.getElem?_take_of_lt (by rw [Nat.mul_one]; exact hi), Array.getElem?_toList]
end Go.Proofs.Ytkcmacglomdfcaa
