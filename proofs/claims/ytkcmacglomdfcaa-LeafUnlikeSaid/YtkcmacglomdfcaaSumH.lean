/-
  THE WALKS of sum.roots and sum.Long.
-/
import Derived.Test.YtkcmacglomdfcaaSumG
import Derived.Laws.Cover3
namespace Go.Proofs.Ytkcmacglomdfcaa
open Go.RowKit

theorem roots_sum (w : World) : Calls Try.prog 76 #[] w fun e w' => e = .returned (.agg (cells64 H64).toArray) ∧ Below w.heap.size w w' := by
  go_enter Try.func76, Try.ntmps76
  go_wp2_with ((with_reducible show wpList _ _ _ (⟨_, Op.store 108 _ _, _, _, _, _⟩ :: _) _ _); refine wpList_store_row rfl _ _ _ rfl w.heap.size 0 (cells64 H64).toArray rfl (by rw [roots_eq]; rfl) (there_new' _ _ _ (by simp [cells64])) (by kernel_rfl) (by simp [cells64]) ?_; intro w8 hg8 hs8 ht8 hth8)
  refine bodyPost_ret (v := .agg (cells64 H64).toArray) ?_ rfl ⟨rfl, ?_⟩
  · exact results_cell (s := 0) rfl _ _ _ w.heap.size 0 rfl (cells64 H64) _ (by simpa using ht8) Try.underlying108 rfl (by kernel_rfl)
  · exact ((Below.refl _ _).alloc (Nat.le_refl _) _).grown hg8 (by simp) (by intro k hk; cases hk; exact Nat.le_refl _)

theorem digest64_len (K : List (BitVec 64)) (s : St64) (t : List UInt8) : (digest64 K s t).length = 64 := by rw [digest64, out64_len _ 8 (Nat.le_refl _)]
theorem digest32_len (K : List (BitVec 32)) (s : St32) (t : List UInt8) : (digest32 K s t).length = 32 := by rw [digest32, out32_len _ 8 (Nat.le_refl _)]
theorem b8_all (bs : List UInt8) : (bs.map B8).toArray.all (·.oneCell') = true := by
  rw [Array.all_eq_true_iff_forall_mem]
  intro u hu
  exact b8_oneCell bs u (by simpa using hu)
/-- A row of the call's own, as a pointer to an array. -/
theorem own_ptr {w : World} {B : Nat} {e : TypeId} {v : Value} {n : Nat} {bs : List UInt8} (h : w.ownsRow B e 1 v n (bs.map B8)) (hn : 0 < n) : ∃ g c, v = .slice (some ⟨g, 0, none⟩) n c ∧ w.rangeAt g 0 (bs.map B8) := by
  obtain ⟨A, c, rfl, _, _, hr, hA⟩ := own_form h
  obtain ⟨b, o, rfl, hr2⟩ := hr.2 hn
  obtain ⟨_, e⟩ := hA _ rfl
  cases e
  exact ⟨b, c, rfl, hr2⟩
theorem shape64_of {w : World} {b gT : Nat} {K : List (BitVec 64)} {H : St64} (hb : w.heap[b]? = some (.cells #[.int .i64 64, .slice (some ⟨gT, 0, none⟩) 80 80, V64 H.a, V64 H.b, V64 H.c, V64 H.d, V64 H.e, V64 H.f, V64 H.g, V64 H.h, .int .i64 28, .int .i64 34, .int .i64 39, .int .i64 14, .int .i64 18, .int .i64 41, .int .i64 1, .int .i64 8, .int .i64 7, .int .i64 19, .int .i64 61, .int .i64 6, .int .i64 16] 116 (0, 0)))
    (hT : w.heap[gT]? = some (.cells (K.map V64).toArray 107 (0, 0))) (hK : K.length = 80) : Shape64 w b gT 80 K ∧ w.rangeAt b 2 (cells64 H) := by
  have k : ∀ (i : Nat) (v : Value), #[Value.int .i64 64, .slice (some ⟨gT, 0, none⟩) 80 80, V64 H.a, V64 H.b, V64 H.c, V64 H.d, V64 H.e, V64 H.f, V64 H.g, V64 H.h, .int .i64 28, .int .i64 34, .int .i64 39, .int .i64 14, .int .i64 18, .int .i64 41, .int .i64 1, .int .i64 8, .int .i64 7, .int .i64 19, .int .i64 61, .int .i64 6, .int .i64 16][i]? = some v → w.cell? ⟨b, i, none⟩ = some v := fun i v h => by rw [cell_of_row _ _ _ _ _ _ hb]; exact h
  refine ⟨⟨k 0 _ rfl, k 1 _ rfl, k 10 _ rfl, k 11 _ rfl, k 12 _ rfl, k 13 _ rfl, k 14 _ rfl, k 15 _ rfl, k 16 _ rfl, k 17 _ rfl, k 18 _ rfl, k 19 _ rfl, k 20 _ rfl, k 21 _ rfl, k 22 _ rfl, hK, ?_⟩, ?_⟩
  · intro j hj
    rw [cell_of_row _ _ _ _ _ _ hT]
    have hj' : j < K.length := by omega
    simp [List.getD_eq_getElem?_getD, hj']
  · intro j v hv
    have hj : j < 8 := by have := (List.getElem?_eq_some_iff.1 hv).1; simpa [cells64] using this
    rw [cell_of_row _ _ _ _ _ _ hb]
    match j, hj with
    | 0, _ | 1, _ | 2, _ | 3, _ | 4, _ | 5, _ | 6, _ | 7, _ => exact hv
set_option maxHeartbeats 1000000 in
theorem long_any (w : World) (v : Value) (ps : List (List UInt8)) (hv : SBs w v ps) (hn : ps.flatten.length ≤ 70368744177664) :
    Calls Try.prog 28 #[v] w fun e w' => e = .returned (.agg ((digest64 K64 H64 ps.flatten).map B8).toArray) ∧ Below w.heap.size w w' := by
  have hT := table_sum
  have hR := roots_sum
  obtain ⟨Kt, hKt⟩ : ∃ Kt, Kt = K64 := ⟨_, rfl⟩
  obtain ⟨Ht, hHt⟩ : ∃ Ht, Ht = H64 := ⟨_, rfl⟩
  have hKl : Kt.length = 80 := by rw [hKt]; exact K64_len
  rw [← hKt] at hT ⊢
  rw [← hHt] at hR ⊢
  clear hKt hHt
  have hD := digest64_any (K := Kt) (s0 := Ht)
  obtain ⟨D, hD'⟩ : ∃ D, D = digest64 Kt Ht ps.flatten := ⟨_, rfl⟩
  rw [← hD']
  have HD' := Lib.hid hD'
  have HD := Lib.hid hD
  have HKl := Lib.hid hKl
  clear hD hD' hKl
  go_enter Try.func28, Try.ntmps28
  go_wp2_with fail
  refine (hT _).mono ?_
  rintro e w1 ⟨rfl, hw1⟩
  go_wp2_with fail
  refine (hR _).mono ?_
  rintro e w2 ⟨rfl, hb2⟩
  clear hT hR
  have hce : (cells64 Ht).toArray = #[V64 Ht.a, V64 Ht.b, V64 Ht.c, V64 Ht.d, V64 Ht.e, V64 Ht.f, V64 Ht.g, V64 Ht.h] := rfl
  rw [hce]
  clear hce
  go_wp2_with fail
  obtain ⟨w3, hw3⟩ : ∃ w3, w3 = w2.alloc (.cells #[.int .i64 64, .slice (some ⟨w.heap.size + 1, 0, none⟩) 80 80, V64 Ht.a, V64 Ht.b, V64 Ht.c, V64 Ht.d, V64 Ht.e, V64 Ht.f, V64 Ht.g, V64 Ht.h, .int .i64 28, .int .i64 34, .int .i64 39, .int .i64 14, .int .i64 18, .int .i64 41, .int .i64 1, .int .i64 8, .int .i64 7, .int .i64 19, .int .i64 61, .int .i64 6, .int .i64 16] 116) := ⟨_, rfl⟩
  rw [← hw3]
  have hb3 : Below w1.heap.size w1 w3 := by rw [hw3]; exact hb2.alloc hb2.size _
  have hT1 : w1.heap[w.heap.size + 1]? = some (.cells (Kt.map V64).toArray 107 (0, 0)) := by rw [← hw1]; exact heap_alloc_at _ _ _ (by simp)
  have hR1 : w1.heap[w.heap.size]? = some (.cells (List.replicate 64 (.int .u8 0)).toArray 32 (0, 0)) := by rw [← hw1]; exact (Below.heap_alloc _ _ _ (by simp)).trans (heap_alloc_new w _)
  have hb01 : Below w.heap.size w w1 := by rw [← hw1]; exact ((Below.refl _ _).alloc (Nat.le_refl _) _).alloc (by simp) _
  have hs1 : w1.heap.size = w.heap.size + 2 := by rw [← hw1]; simp
  clear hw1
  have hN := heap_alloc_new w2 (.cells #[.int .i64 64, .slice (some ⟨w.heap.size + 1, 0, none⟩) 80 80, V64 Ht.a, V64 Ht.b, V64 Ht.c, V64 Ht.d, V64 Ht.e, V64 Ht.f, V64 Ht.g, V64 Ht.h, .int .i64 28, .int .i64 34, .int .i64 39, .int .i64 14, .int .i64 18, .int .i64 41, .int .i64 1, .int .i64 8, .int .i64 7, .int .i64 19, .int .i64 61, .int .i64 6, .int .i64 16] 116)
  rw [← hw3] at hN
  clear hw3
  obtain ⟨hsh, hf⟩ := shape64_of hN (heap_below hT1 hb3) HKl.out
  have hb03 := hb01.trans (hb3.mono hb01.size)
  have hR3 := heap_below hR1 hb3
  have hz3 : w.heap.size + 2 ≤ w3.heap.size := by have := hb3.size; omega
  refine (HD.out w3 _ _ _ hsh hf v ps (hv.below hb03) hn).mono ?_
  rintro e w4 ⟨v', rfl, hown, hb4⟩
  rw [← HD'.out] at hown
  have hDl : D.length = 64 := by rw [HD'.out, digest64_len]
  rw [hDl] at hown
  obtain ⟨g, c, rfl, hg⟩ := own_ptr hown (by omega)
  have hR4 := heap_below hR3 hb4
  have hth := there_blk (n := (D.map B8).toArray.size) hR4 (by simp [hDl])
  have hi : (Try.prog.info? 32).map (·.size) = some (D.map B8).length := by rw [List.length_map, hDl]; kernel_rfl
  have hb04 := hb03.trans (hb4.mono hb03.size)
  have hs4 : w.heap.size < w4.heap.size := by have := hb4.size; omega
  have har := run_arrayAt (P := Try.prog) w4 32 5 64 (some ⟨g, 0, none⟩) 64 c Try.underlying32 (Nat.le_refl _)
  have Hb04 := Lib.hid hb04
  have Hs4 := Lib.hid hs4
  have HDl := Lib.hid hDl
  clear hb04 hs4 hDl hb3 hN hsh hf hb03 hR3 hz3 hb4 hown hT1 hR1 hb01 hs1 hv hn hb2
  go_wp2_with (first
    | ((with_reducible show wpList _ _ _ (⟨_, Op.load 32 _, _, _, _, _⟩ :: _) _ _); refine wpList_load_mid rfl _ _ rfl g 0 rfl (D.map B8) _ hg Try.underlying32 rfl hi ?_)
    | ((with_reducible show wpList _ _ _ (⟨_, Op.store 32 _ _, _, _, _, _⟩ :: _) _ _); refine wpList_store_row rfl _ _ _ rfl w.heap.size 0 (D.map B8).toArray rfl rfl hth (by simpa using hi) (b8_all D) ?_; intro w8 hg8 hs8 ht8 hth8))
  refine bodyPost_ret (v := .agg (D.map B8).toArray) ?_ rfl ⟨rfl, ?_⟩
  · exact results_cell (s := 2) rfl _ _ _ w.heap.size 0 rfl (D.map B8) _ (by simpa using ht8) Try.underlying32 rfl hi
  · exact Hb04.out.grown hg8 (Nat.le_of_lt Hs4.out) (by intro k hk; cases hk; exact Nat.le_refl _)
end Go.Proofs.Ytkcmacglomdfcaa
