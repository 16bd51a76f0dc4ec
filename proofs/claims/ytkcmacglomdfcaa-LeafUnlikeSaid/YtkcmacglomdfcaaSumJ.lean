/-
  THE WALK of alive in cachetlaw01.
-/
import Derived.Test.YtkcmacglomdfcaaSumI
namespace Go.Proofs.Ytkcmacglomdfcaa
open Go.RowKit

theorem empty32 : (digest32 K32 H32 []).getD 0 0 = 227 ∧ (digest32 K32 H32 []).getD 1 0 = 176 ∧ (digest32 K32 H32 []).getD 31 0 = 85 := by decide +kernel
theorem empty64 : (digest64 K64 H64 []).getD 0 0 = 207 ∧ (digest64 K64 H64 []).getD 1 0 = 131 ∧ (digest64 K64 H64 []).getD 63 0 = 62 := by decide +kernel
theorem sbs_nil (w : World) : SBs w (.slice none 0 0) [] := ⟨[], ⟨none, 0, 0, rfl, Nat.le_refl _, by unfold maxLen; omega, RV.nil _ _⟩, rfl, fun k u bs h => by simp at h⟩
theorem b8_at {w : World} {b i : Nat} {D : List UInt8} {c : UInt8} (z : Int) (h : w.rangeAt b 0 (D.map B8)) (hi : i < D.length) (hc : D.getD i 0 = c) (hz : (c.toNat : Int) = z) : w.cell? ⟨b, i, none⟩ = some (.int .u8 z) := by
  have := h i (B8 c) (by rw [List.getElem?_map, List.getElem?_eq_getElem hi, ← hc, List.getD_eq_getElem?_getD, List.getElem?_eq_getElem hi]; rfl)
  rw [Nat.zero_add, B8, hz] at this
  exact this
set_option maxHeartbeats 1000000 in
theorem alive1_any (w : World) : Calls Try.prog 23 #[] w fun e w' => e = .returned (.bool true) ∧ Below w.heap.size w w' := by
  have h1 := fun w => short_any w _ _ (sbs_nil w) (by simp)
  have h2 := fun w => long_any w _ _ (sbs_nil w) (by simp)
  have hl1 := digest32_len K32 H32 []
  have hl2 := digest64_len K64 H64 []
  have he1 := empty32
  have he2 := empty64
  simp only [List.flatten_nil] at h1 h2
  generalize digest32 K32 H32 [] = D1 at h1 hl1 he1
  generalize digest64 K64 H64 [] = D2 at h2 hl2 he2
  go_enter Try.func23, Try.ntmps23
  go_wp2_with fail
  refine (h1 _).mono ?_
  rintro e w1 ⟨rfl, hb1⟩
  clear h1
  go_wp2_with fail
  refine (h2 _).mono ?_
  rintro e w2 ⟨rfl, hb2⟩
  clear h2
  have hi1 : (Try.prog.info? 26).map (·.size) = some (D1.map B8).length := by rw [List.length_map, hl1]; kernel_rfl
  have hi2 : (Try.prog.info? 32).map (·.size) = some (D2.map B8).length := by rw [List.length_map, hl2]; kernel_rfl
  have Hl1 := Lib.hid hl1
  have Hl2 := Lib.hid hl2
  have He1 := Lib.hid he1
  have He2 := Lib.hid he2
  have hb02 := hb1.trans (hb2.mono hb1.size)
  have Hb02 := Lib.hid hb02
  clear hl1 hl2 he1 he2 hb1 hb2 hb02
  go_wp2_with (first
    | ((with_reducible show wpList _ _ _ (⟨_, Op.store 26 _ _, _, _, _, _⟩ :: _) _ _); refine wpList_store_row rfl _ _ _ rfl w2.heap.size 0 (D1.map B8).toArray rfl rfl (there_blk ((Below.heap_alloc _ _ _ (by simp)).trans (heap_alloc_new w2 _)) (by simp [Hl1.out])) (by simpa using hi1) (b8_all D1) ?_; intro w8 hg8 hs8 ht8 hth8)
    | ((with_reducible show wpList _ _ _ (⟨_, Op.store 32 _ _, _, _, _, _⟩ :: _) _ _); refine wpList_store_row rfl _ _ _ rfl (w2.heap.size + 1) 0 (D2.map B8).toArray rfl rfl (there_blk ((hg8.block _ (by simp) (by simp)).trans (heap_alloc_at _ _ _ (by simp))) (by simp [Hl2.out])) (by simpa using hi2) (b8_all D2) ?_; intro w9 hg9 hs9 ht9 hth9; have k8 := rangeAt_same ht8 (hg9.block w2.heap.size (by rw [hs8.out]; simp; omega) (by simp)); have c1 := b8_at 227 k8 (i := 0) (by rw [Hl1.out]; decide) He1.out.1 rfl; have c2 := b8_at 176 k8 (i := 1) (by rw [Hl1.out]; decide) He1.out.2.1 rfl; have c3 := b8_at 85 k8 (i := 31) (by rw [Hl1.out]; decide) He1.out.2.2 rfl; have c4 := b8_at 207 ht9 (i := 0) (by rw [Hl2.out]; decide) He2.out.1 rfl; have c5 := b8_at 131 ht9 (i := 1) (by rw [Hl2.out]; decide) He2.out.2.1 rfl; have c6 := b8_at 62 ht9 (i := 63) (by rw [Hl2.out]; decide) He2.out.2.2 rfl))
  go_ret
  refine ⟨rfl, ?_⟩
  refine Below.grown (Below.grown ((Hb02.out.alloc Hb02.out.size _).alloc (by have := Hb02.out.size; simp; omega) _) hg8 (by have := Hb02.out.size; simp; omega) (by rintro k ⟨⟩; exact Hb02.out.size)) hg9 (by rw [hs8.out]; have := Hb02.out.size; simp; omega) (by rintro k ⟨⟩; have := Hb02.out.size; omega)
end Go.Proofs.Ytkcmacglomdfcaa
