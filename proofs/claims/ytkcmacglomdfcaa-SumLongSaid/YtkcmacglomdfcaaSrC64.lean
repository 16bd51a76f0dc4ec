/-
  THE ANSWER'S DIGEST, what lies in memory (words of 64 bits).
-/
import Derived.Test.YtkcmacglomdfcaaSrB64
import Derived.Test.YtkcmacglomdfcaaSrT
namespace Go.Proofs.Ytkcmacglomdfcaa
open Go.RowKit

/-- Between two steps: the result's block, the words h, the table, the text filled up. -/
structure Rf64 (w : World) (Kt : List (BitVec 64)) (g : Nat) (cur : Array Value) (tg : TypeId) (hs : List Value) (wr : World) : Prop where
  below : Below w.heap.size w wr
  gsz : w.heap.size + 3 ≤ g
  res : wr.heap[w.heap.size]? = some (.cells (List.replicate 64 (.int .u8 0)).toArray 32 (0, 0))
  hbk : wr.heap[w.heap.size + 1]? = some (.cells hs.toArray 108 (0, 0))
  tab : wr.heap[w.heap.size + 3]? = some (.cells (Kt.map V64).toArray 107 (0, 0))
  pad : wr.heap[g]? = some (.cells cur tg (0, 0))
section
variable {w : World} {Kt : List (BitVec 64)} {g : Nat} {cur : Array Value} {tg : TypeId} {hs : List Value} {wr wr' : World}
theorem Rf64.stable (h : Rf64 w Kt g cur tg hs wr) (hb : Below wr.heap.size wr wr') : Rf64 w Kt g cur tg hs wr' :=
  ⟨h.below.trans (hb.mono h.below.size), h.gsz, heap_below h.res hb, heap_below h.hbk hb, heap_below h.tab hb, heap_below h.pad hb⟩
theorem Rf64.glt (h : Rf64 w Kt g cur tg hs wr) : g < wr.heap.size := (Array.getElem?_eq_some_iff.1 h.pad).1
theorem Rf64.grown (h : Rf64 w Kt g cur tg hs wr) {b : Nat} (hg : wr.grownBy wr' (some b)) (hgb : g < b) : Rf64 w Kt g cur tg hs wr' := by
  have hz := h.glt
  have hs := h.gsz
  have k : ∀ {n : Nat} {o : Obj}, n ≤ g → wr.heap[n]? = some o → wr'.heap[n]? = some o := fun {n o} hn ho =>
    (hg.block n (by omega) (by intro e; cases e; omega)).trans ho
  exact ⟨h.below.grown hg h.below.size (by intro x e; cases e; omega), hs, k (by omega) h.res, k (by omega) h.hbk, k (by omega) h.tab, k (Nat.le_refl _) h.pad⟩
theorem Rf64.seth (h : Rf64 w Kt g cur tg hs wr) (i : Nat) (u : Value) : Rf64 w Kt g cur tg (hs.set i u) (wr.setCell ⟨w.heap.size + 1, i, none⟩ u) := by
  have hz := h.gsz
  refine ⟨h.below.setCell (p := ⟨w.heap.size + 1, i, none⟩) (by simp) _, hz, ?_, ?_, ?_, ?_⟩
  · rw [Below.heap_setCell _ _ _ _ (by simp)]; exact h.res
  · rw [heap_setCell_same _ _ i _ _ _ h.hbk]; simp
  · rw [Below.heap_setCell _ _ _ _ (by simp)]; exact h.tab
  · rw [Below.heap_setCell _ _ _ _ (by show g ≠ w.heap.size + 1; omega)]; exact h.pad
theorem Rf64.setBig (h : Rf64 w Kt g cur tg hs wr) {b : Nat} (hgb : g < b) (i : Nat) (u : Value) : Rf64 w Kt g cur tg hs (wr.setCell ⟨b, i, none⟩ u) := by
  have hz := h.gsz
  refine ⟨h.below.setCell (p := ⟨b, i, none⟩) (by show w.heap.size ≤ b; omega) _, hz, ?_, ?_, ?_, ?_⟩
  · rw [Below.heap_setCell _ _ _ _ (by show w.heap.size ≠ b; omega)]; exact h.res
  · rw [Below.heap_setCell _ _ _ _ (by show w.heap.size + 1 ≠ b; omega)]; exact h.hbk
  · rw [Below.heap_setCell _ _ _ _ (by show w.heap.size + 3 ≠ b; omega)]; exact h.tab
  · rw [Below.heap_setCell _ _ _ _ (by show g ≠ b; omega)]; exact h.pad
/-- .. and the block of a round's words. -/
structure Rg64 (w : World) (Kt : List (BitVec 64)) (g : Nat) (cur : Array Value) (tg : TypeId) (hs : List Value) (W : Nat) (tw : TypeId) (ws : List Value) (wr : World) : Prop where
  rf : Rf64 w Kt g cur tg hs wr
  gW : g < W
  blk : wr.heap[W]? = some (.cells ws.toArray tw (0, 0))
variable {W : Nat} {tw : TypeId} {ws : List Value}
theorem Rg64.stable (h : Rg64 w Kt g cur tg hs W tw ws wr) (hb : Below wr.heap.size wr wr') : Rg64 w Kt g cur tg hs W tw ws wr' := ⟨h.rf.stable hb, h.gW, heap_below h.blk hb⟩
theorem Rg64.set (h : Rg64 w Kt g cur tg hs W tw ws wr) (i : Nat) (u : Value) : Rg64 w Kt g cur tg hs W tw (ws.set i u) (wr.setCell ⟨W, i, none⟩ u) :=
  ⟨h.rf.setBig h.gW i u, h.gW, by rw [heap_setCell_same _ _ i _ _ _ h.blk]; simp⟩
theorem Rg64.wlt (h : Rg64 w Kt g cur tg hs W tw ws wr) : W < wr.heap.size := (Array.getElem?_eq_some_iff.1 h.blk).1
/-- .. and the block of the words v. -/
structure Rv64 (w : World) (Kt : List (BitVec 64)) (g : Nat) (cur : Array Value) (tg : TypeId) (hs : List Value) (W : Nat) (tw : TypeId) (ws : List Value) (V : Nat) (vs : List Value) (wr : World) : Prop where
  rg : Rg64 w Kt g cur tg hs W tw ws wr
  WV : W < V
  vlt : V < wr.heap.size
  rng : wr.rangeAt V 0 vs
  thr : wr.there V 0 8
variable {V : Nat} {vs vs' : List Value}
theorem Rv64.stable (h : Rv64 w Kt g cur tg hs W tw ws V vs wr) (hb : Below wr.heap.size wr wr') : Rv64 w Kt g cur tg hs W tw ws V vs wr' :=
  ⟨h.rg.stable hb, h.WV, Nat.lt_of_lt_of_le h.vlt hb.size, rangeAt_below h.rng hb, there_same h.thr (hb.block _ h.vlt)⟩
theorem Rg64.putV (h : Rg64 w Kt g cur tg hs W tw ws wr) (hWV : W < V) (hg : wr.grownBy wr' (some V)) (hV : V < wr'.heap.size) (hr : wr'.rangeAt V 0 vs') (ht : wr'.there V 0 8) : Rv64 w Kt g cur tg hs W tw ws V vs' wr' :=
  ⟨⟨h.rf.grown hg (Nat.lt_trans h.gW hWV), h.gW, (hg.block W h.wlt (by intro e; cases e; omega)).trans h.blk⟩, hWV, hV, hr, ht⟩
theorem Rv64.seth (h : Rv64 w Kt g cur tg hs W tw ws V vs wr) (i : Nat) (u : Value) : Rv64 w Kt g cur tg (hs.set i u) W tw ws V vs (wr.setCell ⟨w.heap.size + 1, i, none⟩ u) := by
  have h1 := h.rg.rf.gsz
  have h2 := h.rg.gW
  have h3 := h.WV
  have hne : (wr.setCell ⟨w.heap.size + 1, i, none⟩ u).heap[V]? = wr.heap[V]? := Below.heap_setCell _ _ _ _ (by show V ≠ w.heap.size + 1; omega)
  refine ⟨⟨h.rg.rf.seth i u, h2, ?_⟩, h3, by simpa [World.setCell] using h.vlt, rangeAt_same h.rng hne, there_same h.thr hne⟩
  rw [Below.heap_setCell _ _ _ _ (by show W ≠ w.heap.size + 1; omega)]
  exact h.rg.blk
end
/-- The words of a round, t of them known. -/
def part64 (full : List (BitVec 64)) (t : Nat) (x : BitVec 64) : List Value := ((full.take t).map V64 ++ [V64 x]) ++ List.replicate (80 - 1 - t) (.int .u64 0)
theorem part64_len (full : List (BitVec 64)) (t : Nat) (x : BitVec 64) (hl : full.length = 80) (ht : t < 80) : (part64 full t x).length = 80 := by
  simp [part64, hl]; omega
theorem part64_set (full : List (BitVec 64)) (t : Nat) (x y : BitVec 64) (hl : full.length = 80) (ht : t < 80) : (part64 full t x).set t (V64 y) = part64 full t y := by
  have h1 : ((full.take t).map V64).length = t := by simp [hl]; omega
  rw [part64, List.append_assoc, List.set_append_right _ _ (by omega), h1, Nat.sub_self, part64, List.append_assoc]
  rfl
theorem part64_next (full : List (BitVec 64)) (t : Nat) (x : BitVec 64) (hx : full[t]? = some x) (ht : t + 1 < 80) : part64 full t x = part64 full (t + 1) 0 := by
  rw [part64, part64, take_snoc hx, List.map_append]
  have : 80 - 1 - t = (80 - 1 - (t + 1)) + 1 := by omega
  rw [this, List.replicate_succ]
  simp
  rfl
theorem part64_full (full : List (BitVec 64)) (x : BitVec 64) (hl : full.length = 80) (hx : full[80 - 1]? = some x) : part64 full (80 - 1) x = full.map V64 := by
  rw [part64]
  have h := take_snoc hx
  rw [List.take_of_length_le (by omega)] at h
  conv => rhs; rw [h]
  simp
theorem part64_at (full : List (BitVec 64)) (t : Nat) (x : BitVec 64) (hl : full.length = 80) (ht : t < 80) : (part64 full t x)[t]? = some (V64 x) := by
  have h1 : ((full.take t).map V64).length = t := by simp [hl]; omega
  rw [part64, List.append_assoc, List.getElem?_append_right (by omega), h1, Nat.sub_self]
  rfl
theorem part64_low (full : List (BitVec 64)) (t i : Nat) (x y : BitVec 64) (hy : full[i]? = some y) (hi : i < t) (ht : t < 80) : (part64 full t x)[i]? = some (V64 y) := by
  have hil := (List.getElem?_eq_some_iff.1 hy).1
  rw [part64, List.append_assoc, List.getElem?_append_left (by simp; omega), List.getElem?_map, List.getElem?_take_of_lt hi, hy]
  rfl
/-- Ch: the two halves are disjoint. -/
theorem ch64 (e f g : BitVec 64) : (e &&& f) + (~~~ e &&& g) = e &&& f ||| ~~~ e &&& g := by
  apply BitVec.add_eq_or_of_and_eq_zero
  apply BitVec.eq_of_getLsbD_eq
  intro i hi
  simp only [BitVec.getLsbD_and, BitVec.getLsbD_not, BitVec.getLsbD_zero]
  cases e.getLsbD i <;> simp
theorem wordB64_at (x : BitVec 64) : ∀ j i, i < j → (wordB64 x j)[i]? = some (UInt8.ofNat (x >>> (64 - 8 - 8 * i)).toNat) := by
  intro j
  induction j with
  | zero => intro i h; omega
  | succ j ih =>
    intro i h
    have hl := wordB64_len x j
    rw [wordB64]
    by_cases hi : i < j
    · rw [List.getElem?_append_left (by omega)]
      exact ih i hi
    · obtain rfl : i = j := by omega
      rw [List.getElem?_append_right (by omega), hl]
      simp
theorem out64_at (s : St64) : ∀ k, k ≤ 8 → ∀ i, i < k * 8 → (out64 s k)[i]? = some (UInt8.ofNat (((words864 s).getD (i / 8) 0) >>> (64 - 8 - 8 * (i % 8))).toNat) := by
  intro k
  induction k with
  | zero => intro _ i h; omega
  | succ k ih =>
    intro hk i h
    have hl := out64_len s k (by omega)
    rw [out64_succ s k (by omega)]
    by_cases hi : i < k * 8
    · rw [List.getElem?_append_left (by omega)]
      exact ih (by omega) i hi
    · rw [List.getElem?_append_right (by omega), hl, wordB64_at _ _ _ (by omega)]
      have e1 : i / 8 = k := by omega
      have e2 : i % 8 = i - k * 8 := by omega
      rw [e1, e2]
theorem rnds64_next (K W : List (BitVec 64)) (s : St64) (j : Nat) : rnds64 K W s (j + 1) = rnd64 (rnds64 K W s j) (K.getD j 0) (W.getD j 0) := rfl
end Go.Proofs.Ytkcmacglomdfcaa
