/-
  THE DIGESTS' CONSTANTS: fractions of the first primes' cube roots and square roots; the walks of sum.table, sum.roots.
-/
import Derived.Test.YtkcmacglomdfcaaSmW
import Derived.Great.BuildSlice
import Derived.Laws.Cover3
namespace Go.Proofs.Ytkcmacglomdfcaa
open Go.RowKit

def cbrtB : Nat → Nat → Nat → Nat
  | 0, r, _ => r
  | b + 1, r, n => if (r + 2 ^ b) * (r + 2 ^ b) * (r + 2 ^ b) ≤ n then cbrtB b (r + 2 ^ b) n else cbrtB b r n
def sqrtB : Nat → Nat → Nat → Nat
  | 0, r, _ => r
  | b + 1, r, n => if (r + 2 ^ b) * (r + 2 ^ b) ≤ n then sqrtB b (r + 2 ^ b) n else sqrtB b r n
def primes80 : List Nat := [2, 3, 5, 7, 11, 13, 17, 19, 23, 29, 31, 37, 41, 43, 47, 53, 59, 61, 67, 71, 73, 79, 83, 89, 97, 101, 103, 107, 109, 113, 127, 131, 137, 139, 149, 151, 157, 163, 167, 173, 179, 181, 191, 193, 197, 199, 211, 223, 227, 229, 233, 239, 241, 251, 257, 263, 269, 271, 277, 281, 283, 293, 307, 311, 313, 317, 331, 337, 347, 349, 353, 359, 367, 373, 379, 383, 389, 397, 401, 409]
def frac3 (p : Nat) : Nat := cbrtB 68 0 (p * 2 ^ 192) % 18446744073709551616
def frac2 (p : Nat) : BitVec 64 := BitVec.ofNat 64 (sqrtB 68 0 (p * 2 ^ 128) % 18446744073709551616)
def K64 : List (BitVec 64) := primes80.map fun p => BitVec.ofNat 64 (frac3 p)
def K64z : List Int := primes80.map fun p => (frac3 p : Int)
theorem K64z_eq : K64z.map (Value.int .u64) = K64.map V64 := by
  unfold K64z K64
  rw [List.map_map, List.map_map]
  apply List.map_congr_left
  intro p _
  have h : frac3 p < 18446744073709551616 := Nat.mod_lt _ (by decide)
  simp only [Function.comp, V64, BitVec.toNat_ofNat]
  rw [Nat.mod_eq_of_lt h]
theorem K64_len : K64.length = 80 := by simp [K64, primes80]
def H64 : St64 := { a := frac2 2, b := frac2 3, c := frac2 5, d := frac2 7, e := frac2 11, f := frac2 13, g := frac2 17, h := frac2 19 }
def hi32 (x : BitVec 64) : BitVec 32 := (x >>> 32).setWidth 32
def K32 : List (BitVec 32) := (K64.take 64).map hi32
def H32 : St32 := { a := hi32 H64.a, b := hi32 H64.b, c := hi32 H64.c, d := hi32 H64.d, e := hi32 H64.e, f := hi32 H64.f, g := hi32 H64.g, h := hi32 H64.h }

set_option maxRecDepth 100000 in
theorem table_sum (w : World) : Calls Try.prog 75 #[] w fun e w' => e = .returned (.slice (some ⟨w.heap.size, 0, none⟩) 80 80) ∧ w.alloc (.cells (K64.map V64).toArray 107) = w' := by
  go_enter Try.func75, Try.ntmps75
  go_wp2_with ((with_reducible show wpList _ _ _ (⟨_, Op.buildSlice _ _ _, _, _, _, _⟩ :: _) _ _); refine wpList_buildFlat rfl 105 107 80 _ rfl .u64 K64z Try.underlying105 (by kernel_rfl) (by kernel_rfl) (by kernel_rfl) (by decide) (by decide) (by kernel_rfl) ?_)
  go_ret
  exact ⟨rfl, by rw [K64z_eq]⟩
theorem roots_eq : (cells64 H64).toArray = #[.int .u64 7640891576956012808, .int .u64 13503953896175478587, .int .u64 4354685564936845355, .int .u64 11912009170470909681, .int .u64 5840696475078001361, .int .u64 11170449401992604703, .int .u64 2270897969802886507, .int .u64 6620516959819538809] := by kernel_rfl
end Go.Proofs.Ytkcmacglomdfcaa

/-
  THE WALKS of sum.roots and sum.Long.
-/
namespace Go.Proofs.Ytkcmacglomdfcaa
open Go.RowKit

theorem roots_sum (w : World) : Calls Try.prog 76 #[] w fun e w' => e = .returned (.agg (cells64 H64).toArray) ∧ Below w.heap.size w w' := by
  go_enter Try.func76, Try.ntmps76
  go_wp2_with ((with_reducible show wpList _ _ _ (⟨_, Op.store 108 _ _, _, _, _, _⟩ :: _) _ _); refine wpList_store_row rfl _ _ _ rfl w.heap.size 0 (cells64 H64).toArray rfl (by rw [roots_eq]; rfl) (there_new' _ _ _ (by simp [cells64])) (by kernel_rfl) (by simp [cells64]) ?_; intro w8 hg8 hs8 ht8 hth8)
  refine bodyPost_ret (v := .agg (cells64 H64).toArray) ?_ rfl ⟨rfl, ?_⟩
  · exact results_cell (s := 0) rfl _ _ _ w.heap.size 0 rfl (cells64 H64) _ (by simpa using ht8) Try.underlying108 rfl (by kernel_rfl)
  · exact ((Below.refl _ _).alloc (Nat.le_refl _) _).grown hg8 (by simp) (by intro k hk; cases hk; exact Nat.le_refl _)

theorem digest64_len (K : List (BitVec 64)) (s : St64) (t : List UInt8) : (digest64 K s t).length = 64 := by rw [digest64, out64_len _ 8 (Nat.le_refl _)]
theorem digest32_len (K : List (BitVec 32)) (s : St32) (t : List UInt8) : (digest32 K s t).length = 32 := by rw [digest32, out32_len _ 8 (Nat.le_refl _)]
theorem b8_all (bs : List UInt8) : (bs.map B8).toArray.all (·.oneCell') = true := by
  rw [Array.all_eq_true_iff_forall_mem]
  intro u hu
  exact b8_oneCell bs u (by simpa using hu)
/-- A row of the call's own, as a pointer to an array. -/
theorem own_ptr {w : World} {B : Nat} {e : TypeId} {v : Value} {n : Nat} {bs : List UInt8} (h : w.ownsRow B e 1 v n (bs.map B8)) (hn : 0 < n) : ∃ g c, v = .slice (some ⟨g, 0, none⟩) n c ∧ w.rangeAt g 0 (bs.map B8) := by
  obtain ⟨A, c, rfl, _, _, hr, hA⟩ := own_form h
  obtain ⟨b, o, rfl, hr2⟩ := hr.2 hn
  obtain ⟨_, e⟩ := hA _ rfl
  cases e
  exact ⟨b, c, rfl, hr2⟩
theorem shape64_of {w : World} {b gT : Nat} {K : List (BitVec 64)} {H : St64} (hb : w.heap[b]? = some (.cells #[.int .i64 64, .slice (some ⟨gT, 0, none⟩) 80 80, V64 H.a, V64 H.b, V64 H.c, V64 H.d, V64 H.e, V64 H.f, V64 H.g, V64 H.h, .int .i64 28, .int .i64 34, .int .i64 39, .int .i64 14, .int .i64 18, .int .i64 41, .int .i64 1, .int .i64 8, .int .i64 7, .int .i64 19, .int .i64 61, .int .i64 6, .int .i64 16] 116 (0, 0)))
    (hT : w.heap[gT]? = some (.cells (K.map V64).toArray 107 (0, 0))) (hK : K.length = 80) : Shape64 w b gT 80 K ∧ w.rangeAt b 2 (cells64 H) := by
  have k : ∀ (i : Nat) (v : Value), #[Value.int .i64 64, .slice (some ⟨gT, 0, none⟩) 80 80, V64 H.a, V64 H.b, V64 H.c, V64 H.d, V64 H.e, V64 H.f, V64 H.g, V64 H.h, .int .i64 28, .int .i64 34, .int .i64 39, .int .i64 14, .int .i64 18, .int .i64 41, .int .i64 1, .int .i64 8, .int .i64 7, .int .i64 19, .int .i64 61, .int .i64 6, .int .i64 16][i]? = some v → w.cell? ⟨b, i, none⟩ = some v := fun i v h => by rw [cell_of_row _ _ _ _ _ _ hb]; exact h
  refine ⟨⟨k 0 _ rfl, k 1 _ rfl, k 10 _ rfl, k 11 _ rfl, k 12 _ rfl, k 13 _ rfl, k 14 _ rfl, k 15 _ rfl, k 16 _ rfl, k 17 _ rfl, k 18 _ rfl, k 19 _ rfl, k 20 _ rfl, k 21 _ rfl, k 22 _ rfl, hK, ?_⟩, ?_⟩
  · intro j hj
    rw [cell_of_row _ _ _ _ _ _ hT]
    have hj' : j < K.length := by omega
    simp [List.getD_eq_getElem?_getD, hj']
  · intro j v hv
    have hj : j < 8 := by have := (List.getElem?_eq_some_iff.1 hv).1; simpa [cells64] using this
    rw [cell_of_row _ _ _ _ _ _ hb]
    match j, hj with
    | 0, _ | 1, _ | 2, _ | 3, _ | 4, _ | 5, _ | 6, _ | 7, _ => exact hv
set_option maxHeartbeats 1000000 in
theorem long_any (w : World) (v : Value) (ps : List (List UInt8)) (hv : SBs w v ps) (hn : ps.flatten.length ≤ 70368744177664) :
    Calls Try.prog 28 #[v] w fun e w' => e = .returned (.agg ((digest64 K64 H64 ps.flatten).map B8).toArray) ∧ Below w.heap.size w w' := by
  have hT := table_sum
  have hR := roots_sum
  obtain ⟨Kt, hKt⟩ : ∃ Kt, Kt = K64 := ⟨_, rfl⟩
  obtain ⟨Ht, hHt⟩ : ∃ Ht, Ht = H64 := ⟨_, rfl⟩
  have hKl : Kt.length = 80 := by rw [hKt]; exact K64_len
  rw [← hKt] at hT ⊢
  rw [← hHt] at hR ⊢
  clear hKt hHt
  have hD := digest64_any (K := Kt) (s0 := Ht)
  obtain ⟨D, hD'⟩ : ∃ D, D = digest64 Kt Ht ps.flatten := ⟨_, rfl⟩
  rw [← hD']
  have HD' := Lib.hid hD'
  have HD := Lib.hid hD
  have HKl := Lib.hid hKl
  clear hD hD' hKl
  go_enter Try.func28, Try.ntmps28
  go_wp2_with fail
  refine (hT _).mono ?_
  rintro e w1 ⟨rfl, hw1⟩
  go_wp2_with fail
  refine (hR _).mono ?_
  rintro e w2 ⟨rfl, hb2⟩
  clear hT hR
  have hce : (cells64 Ht).toArray = #[V64 Ht.a, V64 Ht.b, V64 Ht.c, V64 Ht.d, V64 Ht.e, V64 Ht.f, V64 Ht.g, V64 Ht.h] := rfl
  rw [hce]
  clear hce
  go_wp2_with fail
  obtain ⟨w3, hw3⟩ : ∃ w3, w3 = w2.alloc (.cells #[.int .i64 64, .slice (some ⟨w.heap.size + 1, 0, none⟩) 80 80, V64 Ht.a, V64 Ht.b, V64 Ht.c, V64 Ht.d, V64 Ht.e, V64 Ht.f, V64 Ht.g, V64 Ht.h, .int .i64 28, .int .i64 34, .int .i64 39, .int .i64 14, .int .i64 18, .int .i64 41, .int .i64 1, .int .i64 8, .int .i64 7, .int .i64 19, .int .i64 61, .int .i64 6, .int .i64 16] 116) := ⟨_, rfl⟩
  rw [← hw3]
  have hb3 : Below w1.heap.size w1 w3 := by rw [hw3]; exact hb2.alloc hb2.size _
  have hT1 : w1.heap[w.heap.size + 1]? = some (.cells (Kt.map V64).toArray 107 (0, 0)) := by rw [← hw1]; exact heap_alloc_at _ _ _ (by simp)
  have hR1 : w1.heap[w.heap.size]? = some (.cells (List.replicate 64 (.int .u8 0)).toArray 32 (0, 0)) := by rw [← hw1]; exact (Below.heap_alloc _ _ _ (by simp)).trans (heap_alloc_new w _)
  have hb01 : Below w.heap.size w w1 := by rw [← hw1]; exact ((Below.refl _ _).alloc (Nat.le_refl _) _).alloc (by simp) _
  have hs1 : w1.heap.size = w.heap.size + 2 := by rw [← hw1]; simp
  clear hw1
  have hN := heap_alloc_new w2 (.cells #[.int .i64 64, .slice (some ⟨w.heap.size + 1, 0, none⟩) 80 80, V64 Ht.a, V64 Ht.b, V64 Ht.c, V64 Ht.d, V64 Ht.e, V64 Ht.f, V64 Ht.g, V64 Ht.h, .int .i64 28, .int .i64 34, .int .i64 39, .int .i64 14, .int .i64 18, .int .i64 41, .int .i64 1, .int .i64 8, .int .i64 7, .int .i64 19, .int .i64 61, .int .i64 6, .int .i64 16] 116)
  rw [← hw3] at hN
  clear hw3
  obtain ⟨hsh, hf⟩ := shape64_of hN (heap_below hT1 hb3) HKl.out
  have hb03 := hb01.trans (hb3.mono hb01.size)
  have hR3 := heap_below hR1 hb3
  have hz3 : w.heap.size + 2 ≤ w3.heap.size := by have := hb3.size; omega
  refine (HD.out w3 _ _ _ hsh hf v ps (hv.below hb03) hn).mono ?_
  rintro e w4 ⟨v', rfl, hown, hb4⟩
  rw [← HD'.out] at hown
  have hDl : D.length = 64 := by rw [HD'.out, digest64_len]
  rw [hDl] at hown
  obtain ⟨g, c, rfl, hg⟩ := own_ptr hown (by omega)
  have hR4 := heap_below hR3 hb4
  have hth := there_blk (n := (D.map B8).toArray.size) hR4 (by simp [hDl])
  have hi : (Try.prog.info? 32).map (·.size) = some (D.map B8).length := by rw [List.length_map, hDl]; kernel_rfl
  have hb04 := hb03.trans (hb4.mono hb03.size)
  have hs4 : w.heap.size < w4.heap.size := by have := hb4.size; omega
  have har := run_arrayAt (P := Try.prog) w4 32 5 64 (some ⟨g, 0, none⟩) 64 c Try.underlying32 (Nat.le_refl _)
  have Hb04 := Lib.hid hb04
  have Hs4 := Lib.hid hs4
  have HDl := Lib.hid hDl
  clear hb04 hs4 hDl hb3 hN hsh hf hb03 hR3 hz3 hb4 hown hT1 hR1 hb01 hs1 hv hn hb2
  go_wp2_with (first
    | ((with_reducible show wpList _ _ _ (⟨_, Op.load 32 _, _, _, _, _⟩ :: _) _ _); refine wpList_load_mid rfl _ _ rfl g 0 rfl (D.map B8) _ hg Try.underlying32 rfl hi ?_)
    | ((with_reducible show wpList _ _ _ (⟨_, Op.store 32 _ _, _, _, _, _⟩ :: _) _ _); refine wpList_store_row rfl _ _ _ rfl w.heap.size 0 (D.map B8).toArray rfl rfl hth (by simpa using hi) (b8_all D) ?_; intro w8 hg8 hs8 ht8 hth8))
  refine bodyPost_ret (v := .agg (D.map B8).toArray) ?_ rfl ⟨rfl, ?_⟩
  · exact results_cell (s := 2) rfl _ _ _ w.heap.size 0 rfl (D.map B8) _ (by simpa using ht8) Try.underlying32 rfl hi
  · exact Hb04.out.grown hg8 (Nat.le_of_lt Hs4.out) (by intro k hk; cases hk; exact Nat.le_refl _)
end Go.Proofs.Ytkcmacglomdfcaa

/-
  THE WALK of sum.Short.
-/
namespace Go.Proofs.Ytkcmacglomdfcaa
open Go.RowKit

@[go_sem high] theorem run_conv_hi32 (x : BitVec 64) (w : World) : (convert 107 101 (V64 x)).run Try.prog w = .ok (V32 (x.setWidth 32)) w := by
  simp [convert, run_underlying Try.underlying107, run_underlying Try.underlying101, Conv.intToInt, V32, V64, IntKind.wrap, IntKind.bits, IntKind.signed]
/-- The shape's cells behind the table's slice. -/
def rest32 : List Value := [.int .i64 2, .int .i64 13, .int .i64 22, .int .i64 6, .int .i64 11, .int .i64 25, .int .i64 7, .int .i64 18, .int .i64 3, .int .i64 17, .int .i64 19, .int .i64 10, .int .i64 8]
structure ShA (w : World) (Kt : List (BitVec 64)) (fs : List Value) (T : Value) (k : Nat) (wr : World) : Prop where
  below : Below w.heap.size w wr
  box : wr.heap[w.heap.size + 1]? = some (.cells ([Value.int .i64 32, T] ++ fs ++ rest32).toArray 104 (0, 0))
  tab : wr.heap[w.heap.size + 2]? = some (.cells (Kt.map V64).toArray 107 (0, 0))
  res : wr.heap[w.heap.size]? = some (.cells (List.replicate 32 (.int .u8 0)).toArray 26 (0, 0))
  own : wr.ownsRow w.heap.size 101 1 T k (((Kt.take k).map hi32).map V32)
theorem ShA.step {w wr w6 : World} {Kt : List (BitVec 64)} {fs : List Value} {T T' : Value} {k : Nat} {x : BitVec 64} {ob : Obj} (h : ShA w Kt fs T k wr) (hx : Kt[k]? = some x) (h6 : w6.ownsRow w.heap.size 101 1 T' (k + 1) (((Kt.take k).map hi32).map V32 ++ [V32 (hi32 x)])) (hb6 : Below w.heap.size w w6)
    (hgr : (wr.alloc ob).grownBy w6 T.ownBlock) : w6.heap[w.heap.size + 1]? = some (.cells ([Value.int .i64 32, T] ++ fs ++ rest32).toArray 104 (0, 0)) ∧ ShA w Kt fs T' (k + 1) (w6.setCell ⟨w.heap.size + 1, 1, none⟩ T') := by
  have hbA : Below wr.heap.size wr (wr.alloc ob) := (Below.refl _ _).alloc (Nat.le_refl _) _
  have kp : ∀ {n : Nat} {cs : Array Value} {t : TypeId}, t ≠ 101 → wr.heap[n]? = some (.cells cs t (0, 0)) → w6.heap[n]? = some (.cells cs t (0, 0)) := fun {n cs t} ht hh =>
    (hgr.block n (Nat.lt_of_lt_of_le (Array.getElem?_eq_some_iff.1 hh).1 hbA.size) (fun e => own_notBox h.own hh ht e.symm)).trans (heap_below hh hbA)
  have b6 := kp (by decide) h.box
  refine ⟨b6, hb6.setCell (p := ⟨w.heap.size + 1, 1, none⟩) (by simp) _, ?_, ?_, ?_, ?_⟩
  · rw [heap_setCell_same _ _ 1 _ _ _ b6]
    rfl
  · rw [Below.heap_setCell _ _ _ _ (by simp)]
    exact kp (by decide) h.tab
  · rw [Below.heap_setCell _ _ _ _ (by simp)]
    exact kp (by decide) h.res
  · rw [take_snoc hx, List.map_append, List.map_append]
    exact own_setBox h6 b6 (by decide) 1 _
theorem ShA.first {w wr : World} {Kt : List (BitVec 64)} {fs : List Value} {T u : Value} {k i : Nat} (h : ShA w Kt fs T k wr) (hi : i < fs.length) : ShA w Kt (fs.set i u) T k (wr.setCell ⟨w.heap.size + 1, 2 + i, none⟩ u) := by
  refine ⟨h.below.setCell (p := ⟨w.heap.size + 1, 2 + i, none⟩) (by simp) _, ?_, ?_, ?_, own_setBox h.own h.box (by decide) _ _⟩
  · rw [heap_setCell_same _ _ (2 + i) _ _ _ h.box]
    simp [Nat.add_comm 2 i, hi]
  · rw [Below.heap_setCell _ _ _ _ (by simp)]
    exact h.tab
  · rw [Below.heap_setCell _ _ _ _ (by simp)]
    exact h.res
theorem shape32_of {w wr : World} {Kt : List (BitVec 64)} {g cT : Nat} {H : St32} (hs : ShA w Kt (cells32 H) (.slice (some ⟨g, 0, none⟩) 64 cT) 64 wr) (hr : wr.rangeAt g 0 (((Kt.take 64).map hi32).map V32)) (hK : Kt.length = 80) : Shape32 wr (w.heap.size + 1) g cT ((Kt.take 64).map hi32) ∧ wr.rangeAt (w.heap.size + 1) 2 (cells32 H) := by
  have k : ∀ (i : Nat) (v : Value), ([Value.int .i64 32, .slice (some ⟨g, 0, none⟩) 64 cT] ++ cells32 H ++ rest32)[i]? = some v → wr.cell? ⟨w.heap.size + 1, i, none⟩ = some v := fun i v h => by rw [cell_of_row _ _ _ _ _ _ hs.box]; simpa using h
  refine ⟨⟨k 0 _ rfl, k 1 _ rfl, k 10 _ rfl, k 11 _ rfl, k 12 _ rfl, k 13 _ rfl, k 14 _ rfl, k 15 _ rfl, k 16 _ rfl, k 17 _ rfl, k 18 _ rfl, k 19 _ rfl, k 20 _ rfl, k 21 _ rfl, k 22 _ rfl, by simp [hK], ?_⟩, ?_⟩
  · intro j hj
    have hj' : j < ((Kt.take 64).map hi32).length := by simp [hK]; omega
    have := hr j (V32 (((Kt.take 64).map hi32).getD j 0)) (by rw [List.getElem?_map, List.getD_eq_getElem?_getD, List.getElem?_eq_getElem hj']; rfl)
    rwa [Nat.zero_add] at this
  · intro j v hv
    have hj : j < 8 := by have := (List.getElem?_eq_some_iff.1 hv).1; simpa [cells32] using this
    refine k (2 + j) v ?_
    match j, hj with
    | 0, _ | 1, _ | 2, _ | 3, _ | 4, _ | 5, _ | 6, _ | 7, _ => exact hv
theorem info_w32b : (Try.prog.info? 101).map (fun i => (i.zero, i.size, i.bytes)) = some (some (.int .u32 0), 1, 4) := by kernel_rfl
set_option maxHeartbeats 1000000 in
theorem short_any (w : World) (v : Value) (ps : List (List UInt8)) (hv : SBs w v ps) (hn : ps.flatten.length ≤ 70368744177664) :
    Calls Try.prog 25 #[v] w fun e w' => e = .returned (.agg ((digest32 K32 H32 ps.flatten).map B8).toArray) ∧ Below w.heap.size w w' := by
  have hT := table_sum
  have hR := roots_sum
  obtain ⟨Kt, hKt⟩ : ∃ Kt, Kt = K64 := ⟨_, rfl⟩
  obtain ⟨Ht, hHt⟩ : ∃ Ht, Ht = H64 := ⟨_, rfl⟩
  have hKl : Kt.length = 80 := by rw [hKt]; exact K64_len
  have hK3 : K32 = (Kt.take 64).map hi32 := by rw [hKt]; rfl
  have hH3 : H32 = { a := hi32 Ht.a, b := hi32 Ht.b, c := hi32 Ht.c, d := hi32 Ht.d, e := hi32 Ht.e, f := hi32 Ht.f, g := hi32 Ht.g, h := hi32 Ht.h } := by rw [hHt]; rfl
  rw [hK3, hH3]
  rw [← hKt] at hT
  rw [← hHt] at hR
  clear hKt hHt hK3 hH3
  have hD := digest32_any (K := (Kt.take 64).map hi32) (s0 := { a := hi32 Ht.a, b := hi32 Ht.b, c := hi32 Ht.c, d := hi32 Ht.d, e := hi32 Ht.e, f := hi32 Ht.f, g := hi32 Ht.g, h := hi32 Ht.h })
  obtain ⟨D, hD'⟩ : ∃ D, D = digest32 ((Kt.take 64).map hi32) { a := hi32 Ht.a, b := hi32 Ht.b, c := hi32 Ht.c, d := hi32 Ht.d, e := hi32 Ht.e, f := hi32 Ht.f, g := hi32 Ht.g, h := hi32 Ht.h } ps.flatten := ⟨_, rfl⟩
  rw [← hD']
  have HD' := Lib.hid hD'
  have HD := Lib.hid hD
  have HKl := Lib.hid hKl
  clear hD hD' hKl
  go_enter Try.func25, Try.ntmps25
  go_wp2_with fail
  refine (hT _).mono ?_
  rintro e w1 ⟨rfl, hw1⟩
  clear hT
  have HR := Lib.hid hR
  clear hR
  have hS : ShA w Kt (List.replicate 8 (.int .u32 0)) (.slice none 0 0) 0 w1 := by
    rw [← hw1]
    exact ⟨(((Below.refl _ _).alloc (Nat.le_refl _) _).alloc (by simp) _).alloc (by simp; omega) _, (Below.heap_alloc _ _ _ (by simp)).trans (heap_alloc_at _ _ _ (by simp)), heap_alloc_at _ _ _ (by simp), (Below.heap_alloc _ _ _ (by simp; omega)).trans ((Below.heap_alloc _ _ _ (by simp)).trans (heap_alloc_new w _)), World.ownsRow_nil _ _ _ _⟩
  simp only [World.size_alloc] at *
  clear hw1
  go_wp2_with fail
  go_loopw [18] (fun i wr => ∃ k : Nat, k ≤ 64 ∧ i = .int .i64 k ∧ Hid (∃ T, ShA w Kt (List.replicate 8 (.int .u32 0)) T k wr)) (fun i _ => 64 - (intOf i).toNat)
  case atStart => exact ⟨0, by omega, rfl, Lib.hid ⟨_, hS⟩⟩
  case round =>
    obtain ⟨k, hk, rfl, hq⟩ := hrel
    obtain ⟨T, hA⟩ := hq.out
    clear hq
    obtain ⟨AT, cT, rfl, -, -, -, -⟩ := own_form hA.own
    by_cases hkl : k < 64
    · have hx : Kt[k]? = some (Kt.getD k 0) := by
        have := HKl.out
        rw [List.getD_eq_getElem?_getD, List.getElem?_eq_getElem (by omega)]
        rfl
      obtain ⟨x, hxe⟩ : ∃ x, x = Kt.getD k 0 := ⟨_, rfl⟩
      rw [← hxe] at hx
      clear hxe
      have cTab : wr.cell? ⟨w.heap.size + 2, k, none⟩ = some (V64 x) := by rw [cell_of_row _ _ _ _ _ _ hA.tab]; simp [hx]
      have cB : wr.cell? ⟨w.heap.size + 1, 1, none⟩ = some (.slice AT k cT) := by rw [cell_of_row _ _ _ _ _ _ hA.box]; rfl
      have zz : ∀ t k', binOp .shr t (V64 x) (.int k' 32) = pure (V64 (x >>> 32)) := fun t k' => binOp_shr64 t k' x 32 32 rfl (by decide)
      have Hx := Lib.hid hx
      clear hx
      have hbw := hA.below
      have hown := hA.own
      have HA := Lib.hid hA
      clear hA
      go_wp2_with (at_builtin; refine wpList_append_keep rfl (.tmp 26) (.tmp 30) 100 rfl w (hbw.alloc hbw.size _) Try.underlying100 info_w32b rfl (by decide) (.slice AT k cT) k _ rfl (hown.alloc _) (some ⟨wr.heap.size, 0, none⟩) 1 1 [V32 (hi32 x)] rfl (rc_new wr _ _ _) rfl (by intro u hu; simp at hu; subst hu; rfl) (by unfold maxLen; omega) (by omega) ?_; intro v6 w6 hown6 hb6 hkeep hgr hor; obtain ⟨A6, c6, rfl, -, -, -, -⟩ := own_form hown6; obtain ⟨y1, y2⟩ := HA.out.step Hx.out hown6 hb6 hgr; have cy1 : w6.cell? ⟨w.heap.size + 1, 1, none⟩ = some (.slice AT k cT) := (by rw [cell_of_row _ _ _ _ _ _ y1]; rfl); have fy1 := frozen_blk y1 1; have Hy2 := Lib.hid y2; clear y1 y2 hown6 hb6 hkeep hgr hor)
      go_roundw
      case rel => exact ⟨k + 1, by omega, by go_num, Lib.hid ⟨_, Hy2.out⟩⟩
      case measure => simp [intOf]; omega
    · obtain rfl : k = 64 := by omega
      go_wp2_with fail
      refine (HR.out _).mono ?_
      rintro e w2 ⟨rfl, hb2⟩
      have hB : ShA w Kt (List.replicate 8 (.int .u32 0)) (.slice AT 64 cT) 64 w2 := ⟨hA.below.trans (hb2.mono hA.below.size), heap_below hA.box hb2, heap_below hA.tab hb2, heap_below hA.res hb2, ownsRow_below hA.own hb2⟩
      have hce : (cells64 Ht).toArray = #[V64 Ht.a, V64 Ht.b, V64 Ht.c, V64 Ht.d, V64 Ht.e, V64 Ht.f, V64 Ht.g, V64 Ht.h] := rfl
      rw [hce]
      clear hce hA hS hb2 HR
      go_wp2_with fail
      go_loopw [36] (fun i wr => ∃ k : Nat, k ≤ 8 ∧ i = .int .i64 k ∧ Hid (ShA w Kt (((words864 Ht).take k).map (fun x => V32 (hi32 x)) ++ List.replicate (8 - k) (.int .u32 0)) (.slice AT 64 cT) 64 wr)) (fun i _ => 8 - (intOf i).toNat)
      case atStart => exact ⟨0, by omega, rfl, Lib.hid hB⟩
      case round =>
        obtain ⟨k, hk, rfl, hq⟩ := hrel
        by_cases hkl : k < 8
        · have hidx := index864 Ht k hkl
          have hw8 : (words864 Ht)[k]? = some ((words864 Ht).getD k 0) := by
            rw [List.getD_eq_getElem?_getD, List.getElem?_eq_getElem (by simpa [words864] using hkl)]
            rfl
          obtain ⟨x, hx⟩ : ∃ x, x = (words864 Ht).getD k 0 := ⟨_, rfl⟩
          rw [← hx] at hidx hw8
          clear hx
          have zz : ∀ t k', binOp .shr t (V64 x) (.int k' 32) = pure (V64 (x >>> 32)) := fun t k' => binOp_shr64 t k' x 32 32 rfl (by decide)
          have hst := hq.out.first (u := V32 (hi32 x)) (i := k) (by simp [words864]; omega)
          have hfr : wr.frozen? ⟨w.heap.size + 1, 2 + k, none⟩ = false := frozen_blk hq.out.box _
          have hcl : ∃ c, wr.cell? ⟨w.heap.size + 1, 2 + k, none⟩ = some c := by
            rw [cell_of_row _ _ _ _ _ _ hq.out.box]
            exact ⟨_, Array.getElem?_eq_getElem (by simp [words864, rest32]; omega)⟩
          obtain ⟨c0, hcl⟩ := hcl
          have hnx : (((words864 Ht).take k).map (fun x => V32 (hi32 x)) ++ List.replicate (8 - k) (Value.int .u32 0)).set k (V32 (hi32 x)) = ((words864 Ht).take (k + 1)).map (fun x => V32 (hi32 x)) ++ List.replicate (8 - (k + 1)) (.int .u32 0) := by
            rw [take_snoc hw8, show 8 - k = 8 - (k + 1) + 1 by omega, List.replicate_succ]
            have hl : (((words864 Ht).take k).map (fun x => V32 (hi32 x))).length = k := by simp [words864]; omega
            rw [List.set_append_right _ _ (by omega), hl]
            simp
          have Hnx := Lib.hid hnx
          have Hst := Lib.hid hst
          clear hnx hst hw8 hq
          go_wp2_with fail
          simp only [run_storeCells_w32]
          go_simp
          go_wp2
          go_roundw
          case rel => exact ⟨k + 1, by omega, by go_num, by rw [← Hnx.out]; exact Hst⟩
          case measure => simp [intOf]; omega
        · obtain rfl : k = 8 := by omega
          go_wp2_with fail
          have hC : ShA w Kt (cells32 { a := hi32 Ht.a, b := hi32 Ht.b, c := hi32 Ht.c, d := hi32 Ht.d, e := hi32 Ht.e, f := hi32 Ht.f, g := hi32 Ht.g, h := hi32 Ht.h }) (.slice AT 64 cT) 64 wr := hq.out
          obtain ⟨A2, c2, e2, -, -, hr2, hA2⟩ := own_form hC.own
          cases e2
          obtain ⟨g, o, rfl, hr3⟩ := hr2.2 (by omega)
          obtain ⟨_, e3⟩ := hA2 _ rfl
          cases e3
          obtain ⟨hsh, hf⟩ := shape32_of hC hr3 HKl.out
          have hb03 := hC.below
          have hz3 : w.heap.size < wr.heap.size := (Array.getElem?_eq_some_iff.1 hC.res).1
          have hres := hC.res
          refine (HD.out wr _ _ _ hsh hf v ps (hv.below hb03) hn).mono ?_
          rintro e w4 ⟨v', rfl, hown, hb4⟩
          rw [← HD'.out] at hown
          have hDl : D.length = 32 := by rw [HD'.out, digest32_len]
          rw [hDl] at hown
          obtain ⟨g', c, rfl, hg⟩ := own_ptr hown (by omega)
          have hR4 := heap_below hres hb4
          have hth := there_blk (n := (D.map B8).toArray.size) hR4 (by simp [hDl])
          have hi : (Try.prog.info? 26).map (·.size) = some (D.map B8).length := by rw [List.length_map, hDl]; kernel_rfl
          have hb04 := hb03.trans (hb4.mono hb03.size)
          have hs4 : w.heap.size < w4.heap.size := by have := hb4.size; omega
          have har := run_arrayAt (P := Try.prog) w4 26 5 32 (some ⟨g', 0, none⟩) 32 c Try.underlying26 (Nat.le_refl _)
          have Hb04 := Lib.hid hb04
          have Hs4 := Lib.hid hs4
          have HDl := Lib.hid hDl
          clear hb04 hs4 hDl hsh hf hb03 hz3 hres hb4 hown hv hn hC hr2 hA2 hr3 hq hB
          go_wp2_with (first
            | ((with_reducible show wpList _ _ _ (⟨_, Op.load 26 _, _, _, _, _⟩ :: _) _ _); refine wpList_load_mid rfl _ _ rfl g' 0 rfl (D.map B8) _ hg Try.underlying26 rfl hi ?_)
            | ((with_reducible show wpList _ _ _ (⟨_, Op.store 26 _ _, _, _, _, _⟩ :: _) _ _); refine wpList_store_row rfl _ _ _ rfl w.heap.size 0 (D.map B8).toArray rfl rfl hth (by simpa using hi) (b8_all D) ?_; intro w8 hg8 hs8 ht8 hth8))
          refine bodyPost_ret (v := .agg (D.map B8).toArray) ?_ rfl ⟨rfl, ?_⟩
          · exact results_cell (s := 2) rfl _ _ _ w.heap.size 0 rfl (D.map B8) _ (by simpa using ht8) Try.underlying26 rfl hi
          · exact Hb04.out.grown hg8 (Nat.le_of_lt Hs4.out) (by intro k hk; cases hk; exact Nat.le_refl _)
end Go.Proofs.Ytkcmacglomdfcaa
