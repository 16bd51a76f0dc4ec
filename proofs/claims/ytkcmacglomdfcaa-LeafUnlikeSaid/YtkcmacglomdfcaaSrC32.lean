/-
  THE ANSWER'S DIGEST, what lies in memory (words of 32 bits).
-/
import Derived.Test.YtkcmacglomdfcaaSrB32
import Derived.Test.YtkcmacglomdfcaaSrT
namespace Go.Proofs.Ytkcmacglomdfcaa
open Go.RowKit

/-- Between two steps: the result's block, the words h, the table, the text filled up. -/
structure Rf32 (w : World) (Kt : List (BitVec 64)) (g : Nat) (cur : Array Value) (tg : TypeId) (hs : List Value) (wr : World) : Prop where
  below : Below w.heap.size w wr
  gsz : w.heap.size + 3 ≤ g
  res : wr.heap[w.heap.size]? = some (.cells (List.replicate 32 (.int .u8 0)).toArray 26 (0, 0))
  hbk : wr.heap[w.heap.size + 1]? = some (.cells hs.toArray 102 (0, 0))
  tab : wr.heap[w.heap.size + 3]? = some (.cells (Kt.map V64).toArray 107 (0, 0))
  pad : wr.heap[g]? = some (.cells cur tg (0, 0))
section
variable {w : World} {Kt : List (BitVec 64)} {g : Nat} {cur : Array Value} {tg : TypeId} {hs : List Value} {wr wr' : World}
theorem Rf32.stable (h : Rf32 w Kt g cur tg hs wr) (hb : Below wr.heap.size wr wr') : Rf32 w Kt g cur tg hs wr' :=
  ⟨h.below.trans (hb.mono h.below.size), h.gsz, heap_below h.res hb, heap_below h.hbk hb, heap_below h.tab hb, heap_below h.pad hb⟩
theorem Rf32.glt (h : Rf32 w Kt g cur tg hs wr) : g < wr.heap.size := (Array.getElem?_eq_some_iff.1 h.pad).1
theorem Rf32.grown (h : Rf32 w Kt g cur tg hs wr) {b : Nat} (hg : wr.grownBy wr' (some b)) (hgb : g < b) : Rf32 w Kt g cur tg hs wr' := by
  have hz := h.glt
  have hs := h.gsz
  have k : ∀ {n : Nat} {o : Obj}, n ≤ g → wr.heap[n]? = some o → wr'.heap[n]? = some o := fun {n o} hn ho =>
    (hg.block n (by omega) (by intro e; cases e; omega)).trans ho
  exact ⟨h.below.grown hg h.below.size (by intro x e; cases e; omega), hs, k (by omega) h.res, k (by omega) h.hbk, k (by omega) h.tab, k (Nat.le_refl _) h.pad⟩
theorem Rf32.seth (h : Rf32 w Kt g cur tg hs wr) (i : Nat) (u : Value) : Rf32 w Kt g cur tg (hs.set i u) (wr.setCell ⟨w.heap.size + 1, i, none⟩ u) := by
  have hz := h.gsz
  refine ⟨h.below.setCell (p := ⟨w.heap.size + 1, i, none⟩) (by simp) _, hz, ?_, ?_, ?_, ?_⟩
  · rw [Below.heap_setCell _ _ _ _ (by simp)]; exact h.res
  · rw [heap_setCell_same _ _ i _ _ _ h.hbk]; simp
  · rw [Below.heap_setCell _ _ _ _ (by simp)]; exact h.tab
  · rw [Below.heap_setCell _ _ _ _ (by show g ≠ w.heap.size + 1; omega)]; exact h.pad
theorem Rf32.setBig (h : Rf32 w Kt g cur tg hs wr) {b : Nat} (hgb : g < b) (i : Nat) (u : Value) : Rf32 w Kt g cur tg hs (wr.setCell ⟨b, i, none⟩ u) := by
  have hz := h.gsz
  refine ⟨h.below.setCell (p := ⟨b, i, none⟩) (by show w.heap.size ≤ b; omega) _, hz, ?_, ?_, ?_, ?_⟩
  · rw [Below.heap_setCell _ _ _ _ (by show w.heap.size ≠ b; omega)]; exact h.res
  · rw [Below.heap_setCell _ _ _ _ (by show w.heap.size + 1 ≠ b; omega)]; exact h.hbk
  · rw [Below.heap_setCell _ _ _ _ (by show w.heap.size + 3 ≠ b; omega)]; exact h.tab
  · rw [Below.heap_setCell _ _ _ _ (by show g ≠ b; omega)]; exact h.pad
/-- .. and the block of a round's words. -/
structure Rg32 (w : World) (Kt : List (BitVec 64)) (g : Nat) (cur : Array Value) (tg : TypeId) (hs : List Value) (W : Nat) (tw : TypeId) (ws : List Value) (wr : World) : Prop where
  rf : Rf32 w Kt g cur tg hs wr
  gW : g < W
  blk : wr.heap[W]? = some (.cells ws.toArray tw (0, 0))
variable {W : Nat} {tw : TypeId} {ws : List Value}
theorem Rg32.stable (h : Rg32 w Kt g cur tg hs W tw ws wr) (hb : Below wr.heap.size wr wr') : Rg32 w Kt g cur tg hs W tw ws wr' := ⟨h.rf.stable hb, h.gW, heap_below h.blk hb⟩
theorem Rg32.set (h : Rg32 w Kt g cur tg hs W tw ws wr) (i : Nat) (u : Value) : Rg32 w Kt g cur tg hs W tw (ws.set i u) (wr.setCell ⟨W, i, none⟩ u) :=
  ⟨h.rf.setBig h.gW i u, h.gW, by rw [heap_setCell_same _ _ i _ _ _ h.blk]; simp⟩
theorem Rg32.wlt (h : Rg32 w Kt g cur tg hs W tw ws wr) : W < wr.heap.size := (Array.getElem?_eq_some_iff.1 h.blk).1
/-- .. and the block of the words v. -/
structure Rv32 (w : World) (Kt : List (BitVec 64)) (g : Nat) (cur : Array Value) (tg : TypeId) (hs : List Value) (W : Nat) (tw : TypeId) (ws : List Value) (V : Nat) (vs : List Value) (wr : World) : Prop where
  rg : Rg32 w Kt g cur tg hs W tw ws wr
  WV : W < V
  vlt : V < wr.heap.size
  rng : wr.rangeAt V 0 vs
  thr : wr.there V 0 8
variable {V : Nat} {vs vs' : List Value}
theorem Rv32.stable (h : Rv32 w Kt g cur tg hs W tw ws V vs wr) (hb : Below wr.heap.size wr wr') : Rv32 w Kt g cur tg hs W tw ws V vs wr' :=
  ⟨h.rg.stable hb, h.WV, Nat.lt_of_lt_of_le h.vlt hb.size, rangeAt_below h.rng hb, there_same h.thr (hb.block _ h.vlt)⟩
theorem Rg32.putV (h : Rg32 w Kt g cur tg hs W tw ws wr) (hWV : W < V) (hg : wr.grownBy wr' (some V)) (hV : V < wr'.heap.size) (hr : wr'.rangeAt V 0 vs') (ht : wr'.there V 0 8) : Rv32 w Kt g cur tg hs W tw ws V vs' wr' :=
  ⟨⟨h.rf.grown hg (Nat.lt_trans h.gW hWV), h.gW, (hg.block W h.wlt (by intro e; cases e; omega)).trans h.blk⟩, hWV, hV, hr, ht⟩
theorem Rv32.seth (h : Rv32 w Kt g cur tg hs W tw ws V vs wr) (i : Nat) (u : Value) : Rv32 w Kt g cur tg (hs.set i u) W tw ws V vs (wr.setCell ⟨w.heap.size + 1, i, none⟩ u) := by
  have h1 := h.rg.rf.gsz
  have h2 := h.rg.gW
  have h3 := h.WV
  have hne : (wr.setCell ⟨w.heap.size + 1, i, none⟩ u).heap[V]? = wr.heap[V]? := Below.heap_setCell _ _ _ _ (by show V ≠ w.heap.size + 1; omega)
  refine ⟨⟨h.rg.rf.seth i u, h2, ?_⟩, h3, by simpa [World.setCell] using h.vlt, rangeAt_same h.rng hne, there_same h.thr hne⟩
  rw [Below.heap_setCell _ _ _ _ (by show W ≠ w.heap.size + 1; omega)]
  exact h.rg.blk
end
/-- The words of a round, t of them known. -/
def part32 (full : List (BitVec 32)) (t : Nat) (x : BitVec 32) : List Value := ((full.take t).map V32 ++ [V32 x]) ++ List.replicate (64 - 1 - t) (.int .u32 0)
theorem part32_len (full : List (BitVec 32)) (t : Nat) (x : BitVec 32) (hl : full.length = 64) (ht : t < 64) : (part32 full t x).length = 64 := by
  simp [part32, hl]; omega
theorem part32_set (full : List (BitVec 32)) (t : Nat) (x y : BitVec 32) (hl : full.length = 64) (ht : t < 64) : (part32 full t x).set t (V32 y) = part32 full t y := by
  have h1 : ((full.take t).map V32).length = t := by simp [hl]; omega
  rw [part32, List.append_assoc, List.set_append_right _ _ (by omega), h1, Nat.sub_self, part32, List.append_assoc]
  rfl
theorem part32_next (full : List (BitVec 32)) (t : Nat) (x : BitVec 32) (hx : full[t]? = some x) (ht : t + 1 < 64) : part32 full t x = part32 full (t + 1) 0 := by
  rw [part32, part32, take_snoc hx, List.map_append]
  have : 64 - 1 - t = (64 - 1 - (t + 1)) + 1 := by omega
  rw [this, List.replicate_succ]
  simp
  rfl
theorem part32_full (full : List (BitVec 32)) (x : BitVec 32) (hl : full.length = 64) (hx : full[64 - 1]? = some x) : part32 full (64 - 1) x = full.map V32 := by
  rw [part32]
  have h := take_snoc hx
  rw [List.take_of_length_le (by omega)] at h
  conv => rhs; rw [h]
  simp
theorem part32_at (full : List (BitVec 32)) (t : Nat) (x : BitVec 32) (hl : full.length = 64) (ht : t < 64) : (part32 full t x)[t]? = some (V32 x) := by
  have h1 : ((full.take t).map V32).length = t := by simp [hl]; omega
  rw [part32, List.append_assoc, List.getElem?_append_right (by omega), h1, Nat.sub_self]
  rfl
theorem part32_low (full : List (BitVec 32)) (t i : Nat) (x y : BitVec 32) (hy : full[i]? = some y) (hi : i < t) (_ht : t < 64) : (part32 full t x)[i]? = some (V32 y) := by
  have hil := (List.getElem?_eq_some_iff.1 hy).1
  rw [part32, List.append_assoc, List.getElem?_append_left (by simp; omega), List.getElem?_map, List.getElem?_take_of_lt hi, hy]
  rfl
/-- Ch: the two halves are disjoint. -/
theorem ch32 (e f g : BitVec 32) : (e &&& f) + (~~~ e &&& g) = e &&& f ||| ~~~ e &&& g := by
  apply BitVec.add_eq_or_of_and_eq_zero
  apply BitVec.eq_of_getLsbD_eq
  intro i hi
  simp only [BitVec.getLsbD_and, BitVec.getLsbD_not, BitVec.getLsbD_zero]
  cases e.getLsbD i <;> simp
theorem wordB32_at (x : BitVec 32) : ∀ j i, i < j → (wordB32 x j)[i]? = some (UInt8.ofNat (x >>> (32 - 8 - 8 * i)).toNat) := by
  intro j
  induction j with
  | zero => intro i h; omega
  | succ j ih =>
    intro i h
    have hl := wordB32_len x j
    rw [wordB32]
    by_cases hi : i < j
    · rw [List.getElem?_append_left (by omega)]
      exact ih i hi
    · obtain rfl : i = j := by omega
      rw [List.getElem?_append_right (by omega), hl]
      simp
theorem out32_at (s : St32) : ∀ k, k ≤ 8 → ∀ i, i < k * 4 → (out32 s k)[i]? = some (UInt8.ofNat (((words832 s).getD (i / 4) 0) >>> (32 - 8 - 8 * (i % 4))).toNat) := by
  intro k
  induction k with
  | zero => intro _ i h; omega
  | succ k ih =>
    intro hk i h
    have hl := out32_len s k (by omega)
    rw [out32_succ s k (by omega)]
    by_cases hi : i < k * 4
    · rw [List.getElem?_append_left (by omega)]
      exact ih (by omega) i hi
    · rw [List.getElem?_append_right (by omega), hl, wordB32_at _ _ _ (by omega)]
      have e1 : i / 4 = k := by omega
      have e2 : i % 4 = i - k * 4 := by omega
      rw [e1, e2]
theorem rnds32_next (K W : List (BitVec 32)) (s : St32) (j : Nat) : rnds32 K W s (j + 1) = rnd32 (rnds32 K W s j) (K.getD j 0) (W.getD j 0) := rfl
end Go.Proofs.Ytkcmacglomdfcaa
