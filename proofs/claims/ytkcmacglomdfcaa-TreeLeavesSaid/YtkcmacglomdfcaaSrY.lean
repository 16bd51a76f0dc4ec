/-
  THE ANSWER'S CONSTANTS: the walks of cachetref01.Table and Roots.
-/
import Derived.Test.YtkcmacglomdfcaaSumX
import Derived.Test.YtkcmacglomdfcaaSrX
namespace Go.Proofs.Ytkcmacglomdfcaa
open Go.RowKit

theorem ref_table (w : World) : Calls Try.prog 79 #[] w fun e w' => e = .returned (.slice (some ⟨w.heap.size, 0, none⟩) 80 80) ∧ w.alloc (.cells (K64.map V64).toArray 107) = w' := by
  go_enter Try.func79, Try.ntmps79
  go_wp2_with ((with_reducible show wpList _ _ _ (⟨_, Op.buildSlice _ _ _, _, _, _, _⟩ :: _) _ _); refine wpList_buildFlat rfl 105 107 80 _ rfl .u64 K64z Try.underlying105 (by kernel_rfl) (by kernel_rfl) (by kernel_rfl) (by decide) (by decide) (by kernel_rfl) ?_)
  go_ret
  exact ⟨rfl, by rw [K64z_eq]⟩
def H64z : List Int := [frac2 2, frac2 3, frac2 5, frac2 7, frac2 11, frac2 13, frac2 17, frac2 19].map fun x => (x.toNat : Int)
theorem H64z_eq : H64z.map (Value.int .u64) = cells64 H64 := rfl
theorem ref_roots (w : World) : Calls Try.prog 78 #[] w fun e w' => e = .returned (.slice (some ⟨w.heap.size, 0, none⟩) 8 8) ∧ w.alloc (.cells (cells64 H64).toArray 107) = w' := by
  go_enter Try.func78, Try.ntmps78
  go_wp2_with ((with_reducible show wpList _ _ _ (⟨_, Op.buildSlice _ _ _, _, _, _, _⟩ :: _) _ _); refine wpList_buildFlat rfl 105 107 8 _ rfl .u64 H64z Try.underlying105 (by kernel_rfl) (by kernel_rfl) (by kernel_rfl) (by decide) (by decide) (by kernel_rfl) ?_)
  go_ret
  exact ⟨rfl, by rw [H64z_eq]⟩
theorem own_blk {w : World} {B : Nat} {e : TypeId} {v : Value} {n : Nat} {xs : List Value} (h : w.ownsRow B e 1 v n xs) (hn : 0 < n) :
    ∃ g c cur, v = .slice (some ⟨g, 0, none⟩) n c ∧ B ≤ g ∧ w.heap[g]? = some (.cells cur e (0, 0)) ∧ ∀ i, i < n → cur[i]? = xs[i]? := by
  have hl : xs.length = n := by simpa using h.1
  rcases h.2 with ⟨rfl, rfl⟩ | ⟨g, cap, cur, rfl, hB, hh, hnc, hcm, hcs, htake⟩
  · have := h.1
    simp at this
    omega
  · refine ⟨g, cap, cur, rfl, hB, hh, fun i hi => ?_⟩
    rw [← htake, List.getElem?_take_of_lt (by rw [Nat.mul_one]; exact hi), Array.getElem?_toList]
end Go.Proofs.Ytkcmacglomdfcaa

/-
  THE ANSWER'S DIGEST, what lies in memory (words of 32 bits).
-/
namespace Go.Proofs.Ytkcmacglomdfcaa
open Go.RowKit

/-- Between two steps: the result's block, the words h, the table, the text filled up. -/
structure Rf32 (w : World) (Kt : List (BitVec 64)) (g : Nat) (cur : Array Value) (tg : TypeId) (hs : List Value) (wr : World) : Prop where
  below : Below w.heap.size w wr
  gsz : w.heap.size + 3 ≤ g
  res : wr.heap[w.heap.size]? = some (.cells (List.replicate 32 (.int .u8 0)).toArray 26 (0, 0))
  hbk : wr.heap[w.heap.size + 1]? = some (.cells hs.toArray 102 (0, 0))
  tab : wr.heap[w.heap.size + 3]? = some (.cells (Kt.map V64).toArray 107 (0, 0))
  pad : wr.heap[g]? = some (.cells cur tg (0, 0))
section
variable {w : World} {Kt : List (BitVec 64)} {g : Nat} {cur : Array Value} {tg : TypeId} {hs : List Value} {wr wr' : World}
theorem Rf32.stable (h : Rf32 w Kt g cur tg hs wr) (hb : Below wr.heap.size wr wr') : Rf32 w Kt g cur tg hs wr' :=
  ⟨h.below.trans (hb.mono h.below.size), h.gsz, heap_below h.res hb, heap_below h.hbk hb, heap_below h.tab hb, heap_below h.pad hb⟩
theorem Rf32.glt (h : Rf32 w Kt g cur tg hs wr) : g < wr.heap.size := (Array.getElem?_eq_some_iff.1 h.pad).1
theorem Rf32.grown (h : Rf32 w Kt g cur tg hs wr) {b : Nat} (hg : wr.grownBy wr' (some b)) (hgb : g < b) : Rf32 w Kt g cur tg hs wr' := by
  have hz := h.glt
  have hs := h.gsz
  have k : ∀ {n : Nat} {o : Obj}, n ≤ g → wr.heap[n]? = some o → wr'.heap[n]? = some o := fun {n o} hn ho =>
    (hg.block n (by omega) (by intro e; cases e; omega)).trans ho
  exact ⟨h.below.grown hg h.below.size (by intro x e; cases e; omega), hs, k (by omega) h.res, k (by omega) h.hbk, k (by omega) h.tab, k (Nat.le_refl _) h.pad⟩
theorem Rf32.seth (h : Rf32 w Kt g cur tg hs wr) (i : Nat) (u : Value) : Rf32 w Kt g cur tg (hs.set i u) (wr.setCell ⟨w.heap.size + 1, i, none⟩ u) := by
  have hz := h.gsz
  refine ⟨h.below.setCell (p := ⟨w.heap.size + 1, i, none⟩) (by simp) _, hz, ?_, ?_, ?_, ?_⟩
  · rw [Below.heap_setCell _ _ _ _ (by simp)]; exact h.res
  · rw [heap_setCell_same _ _ i _ _ _ h.hbk]; simp
  · rw [Below.heap_setCell _ _ _ _ (by simp)]; exact h.tab
  · rw [Below.heap_setCell _ _ _ _ (by show g ≠ w.heap.size + 1; omega)]; exact h.pad
theorem Rf32.setBig (h : Rf32 w Kt g cur tg hs wr) {b : Nat} (hgb : g < b) (i : Nat) (u : Value) : Rf32 w Kt g cur tg hs (wr.setCell ⟨b, i, none⟩ u) := by
  have hz := h.gsz
  refine ⟨h.below.setCell (p := ⟨b, i, none⟩) (by show w.heap.size ≤ b; omega) _, hz, ?_, ?_, ?_, ?_⟩
  · rw [Below.heap_setCell _ _ _ _ (by show w.heap.size ≠ b; omega)]; exact h.res
  · rw [Below.heap_setCell _ _ _ _ (by show w.heap.size + 1 ≠ b; omega)]; exact h.hbk
  · rw [Below.heap_setCell _ _ _ _ (by show w.heap.size + 3 ≠ b; omega)]; exact h.tab
  · rw [Below.heap_setCell _ _ _ _ (by show g ≠ b; omega)]; exact h.pad
/-- .. and the block of a round's words. -/
structure Rg32 (w : World) (Kt : List (BitVec 64)) (g : Nat) (cur : Array Value) (tg : TypeId) (hs : List Value) (W : Nat) (tw : TypeId) (ws : List Value) (wr : World) : Prop where
  rf : Rf32 w Kt g cur tg hs wr
  gW : g < W
  blk : wr.heap[W]? = some (.cells ws.toArray tw (0, 0))
variable {W : Nat} {tw : TypeId} {ws : List Value}
theorem Rg32.stable (h : Rg32 w Kt g cur tg hs W tw ws wr) (hb : Below wr.heap.size wr wr') : Rg32 w Kt g cur tg hs W tw ws wr' := ⟨h.rf.stable hb, h.gW, heap_below h.blk hb⟩
theorem Rg32.set (h : Rg32 w Kt g cur tg hs W tw ws wr) (i : Nat) (u : Value) : Rg32 w Kt g cur tg hs W tw (ws.set i u) (wr.setCell ⟨W, i, none⟩ u) :=
  ⟨h.rf.setBig h.gW i u, h.gW, by rw [heap_setCell_same _ _ i _ _ _ h.blk]; simp⟩
theorem Rg32.wlt (h : Rg32 w Kt g cur tg hs W tw ws wr) : W < wr.heap.size := (Array.getElem?_eq_some_iff.1 h.blk).1
/-- .. and the block of the words v. -/
structure Rv32 (w : World) (Kt : List (BitVec 64)) (g : Nat) (cur : Array Value) (tg : TypeId) (hs : List Value) (W : Nat) (tw : TypeId) (ws : List Value) (V : Nat) (vs : List Value) (wr : World) : Prop where
  rg : Rg32 w Kt g cur tg hs W tw ws wr
  WV : W < V
  vlt : V < wr.heap.size
  rng : wr.rangeAt V 0 vs
  thr : wr.there V 0 8
variable {V : Nat} {vs vs' : List Value}
theorem Rv32.stable (h : Rv32 w Kt g cur tg hs W tw ws V vs wr) (hb : Below wr.heap.size wr wr') : Rv32 w Kt g cur tg hs W tw ws V vs wr' :=
  ⟨h.rg.stable hb, h.WV, Nat.lt_of_lt_of_le h.vlt hb.size, rangeAt_below h.rng hb, there_same h.thr (hb.block _ h.vlt)⟩
theorem Rg32.putV (h : Rg32 w Kt g cur tg hs W tw ws wr) (hWV : W < V) (hg : wr.grownBy wr' (some V)) (hV : V < wr'.heap.size) (hr : wr'.rangeAt V 0 vs') (ht : wr'.there V 0 8) : Rv32 w Kt g cur tg hs W tw ws V vs' wr' :=
  ⟨⟨h.rf.grown hg (Nat.lt_trans h.gW hWV), h.gW, (hg.block W h.wlt (by intro e; cases e; omega)).trans h.blk⟩, hWV, hV, hr, ht⟩
theorem Rv32.seth (h : Rv32 w Kt g cur tg hs W tw ws V vs wr) (i : Nat) (u : Value) : Rv32 w Kt g cur tg (hs.set i u) W tw ws V vs (wr.setCell ⟨w.heap.size + 1, i, none⟩ u) := by
  have h1 := h.rg.rf.gsz
  have h2 := h.rg.gW
  have h3 := h.WV
  have hne : (wr.setCell ⟨w.heap.size + 1, i, none⟩ u).heap[V]? = wr.heap[V]? := Below.heap_setCell _ _ _ _ (by show V ≠ w.heap.size + 1; omega)
  refine ⟨⟨h.rg.rf.seth i u, h2, ?_⟩, h3, by simpa [World.setCell] using h.vlt, rangeAt_same h.rng hne, there_same h.thr hne⟩
  rw [Below.heap_setCell _ _ _ _ (by show W ≠ w.heap.size + 1; omega)]
  exact h.rg.blk
end
/-- The words of a round, t of them known. -/
def part32 (full : List (BitVec 32)) (t : Nat) (x : BitVec 32) : List Value := ((full.take t).map V32 ++ [V32 x]) ++ List.replicate (64 - 1 - t) (.int .u32 0)
theorem part32_len (full : List (BitVec 32)) (t : Nat) (x : BitVec 32) (hl : full.length = 64) (ht : t < 64) : (part32 full t x).length = 64 := by
  simp [part32, hl]; omega
theorem part32_set (full : List (BitVec 32)) (t : Nat) (x y : BitVec 32) (hl : full.length = 64) (ht : t < 64) : (part32 full t x).set t (V32 y) = part32 full t y := by
  have h1 : ((full.take t).map V32).length = t := by simp [hl]; omega
  rw [part32, List.append_assoc, List.set_append_right _ _ (by omega), h1, Nat.sub_self, part32, List.append_assoc]
  rfl
theorem part32_next (full : List (BitVec 32)) (t : Nat) (x : BitVec 32) (hx : full[t]? = some x) (ht : t + 1 < 64) : part32 full t x = part32 full (t + 1) 0 := by
  rw [part32, part32, take_snoc hx, List.map_append]
  have : 64 - 1 - t = (64 - 1 - (t + 1)) + 1 := by omega
  rw [this, List.replicate_succ]
  simp
  rfl
theorem part32_full (full : List (BitVec 32)) (x : BitVec 32) (hl : full.length = 64) (hx : full[64 - 1]? = some x) : part32 full (64 - 1) x = full.map V32 := by
  rw [part32]
  have h := take_snoc hx
  rw [List.take_of_length_le (by omega)] at h
  conv => rhs; rw [h]
  simp
theorem part32_at (full : List (BitVec 32)) (t : Nat) (x : BitVec 32) (hl : full.length = 64) (ht : t < 64) : (part32 full t x)[t]? = some (V32 x) := by
  have h1 : ((full.take t).map V32).length = t := by simp [hl]; omega
  rw [part32, List.append_assoc, List.getElem?_append_right (by omega), h1, Nat.sub_self]
  rfl
theorem part32_low (full : List (BitVec 32)) (t i : Nat) (x y : BitVec 32) (hy : full[i]? = some y) (hi : i < t) (_ht : t < 64) : (part32 full t x)[i]? = some (V32 y) := by
  have hil := (List.getElem?_eq_some_iff.1 hy).1
  rw [part32, List.append_assoc, List.getElem?_append_left (by simp; omega), List.getElem?_map, List.getElem?_take_of_lt hi, hy]
  rfl
/-- Ch: the two halves are disjoint. -/
theorem ch32 (e f g : BitVec 32) : (e &&& f) + (~~~ e &&& g) = e &&& f ||| ~~~ e &&& g := by
  apply BitVec.add_eq_or_of_and_eq_zero
  apply BitVec.eq_of_getLsbD_eq
  intro i hi
  simp only [BitVec.getLsbD_and, BitVec.getLsbD_not, BitVec.getLsbD_zero]
  cases e.getLsbD i <;> simp
theorem wordB32_at (x : BitVec 32) : ∀ j i, i < j → (wordB32 x j)[i]? = some (UInt8.ofNat (x >>> (32 - 8 - 8 * i)).toNat) := by
  intro j
  induction j with
  | zero => intro i h; omega
  | succ j ih =>
    intro i h
    have hl := wordB32_len x j
    rw [wordB32]
    by_cases hi : i < j
    · rw [List.getElem?_append_left (by omega)]
      exact ih i hi
    · obtain rfl : i = j := by omega
      rw [List.getElem?_append_right (by omega), hl]
      simp
theorem out32_at (s : St32) : ∀ k, k ≤ 8 → ∀ i, i < k * 4 → (out32 s k)[i]? = some (UInt8.ofNat (((words832 s).getD (i / 4) 0) >>> (32 - 8 - 8 * (i % 4))).toNat) := by
  intro k
  induction k with
  | zero => intro _ i h; omega
  | succ k ih =>
    intro hk i h
    have hl := out32_len s k (by omega)
    rw [out32_succ s k (by omega)]
    by_cases hi : i < k * 4
    · rw [List.getElem?_append_left (by omega)]
      exact ih (by omega) i hi
    · rw [List.getElem?_append_right (by omega), hl, wordB32_at _ _ _ (by omega)]
      have e1 : i / 4 = k := by omega
      have e2 : i % 4 = i - k * 4 := by omega
      rw [e1, e2]
theorem rnds32_next (K W : List (BitVec 32)) (s : St32) (j : Nat) : rnds32 K W s (j + 1) = rnd32 (rnds32 K W s j) (K.getD j 0) (W.getD j 0) := rfl
end Go.Proofs.Ytkcmacglomdfcaa

/-
  THE WALK of the answer's digest (words of 32 bits).
-/
namespace Go.Proofs.Ytkcmacglomdfcaa
open Go.RowKit

def cv32 (x : BitVec 64) : BitVec 32 := hi32 x
theorem kt32_at (j : Nat) (hj : j < 64) : ∃ x, K64[j]? = some x ∧ K32[j]? = some (cv32 x) := by
  have hl := K64_len
  have h1 : K64[j]? = some (K64.getD j 0) := by rw [List.getD_eq_getElem?_getD, List.getElem?_eq_getElem (by omega)]; rfl
  refine ⟨_, h1, ?_⟩
  rw [K32, List.getElem?_map, List.getElem?_take_of_lt hj, h1]; rfl
theorem h32_at (k : Nat) (hk : k < 8) : ∃ x : BitVec 64, (cells64 H64)[k]? = some (V64 x) ∧ (cells32 H32)[k]? = some (V32 (cv32 x)) := by
  match k, hk with
  | 0, _ | 1, _ | 2, _ | 3, _ | 4, _ | 5, _ | 6, _ | 7, _ => exact ⟨_, rfl, rfl⟩
theorem mix832 (s u : St32) (i : Nat) (hi : i < 8) : ∃ x y, (mixC32 s u i)[i]? = some (V32 x) ∧ (cells32 u)[i]? = some (V32 y) ∧ (mixC32 s u i).set i (V32 (x + y)) = mixC32 s u (i + 1) := by
  match i, hi with
  | 0, _ | 1, _ | 2, _ | 3, _ | 4, _ | 5, _ | 6, _ | 7, _ => exact ⟨_, _, rfl, rfl, rfl⟩
def wl32 (full : List (BitVec 32)) (j : Nat) : List Value := if j < 64 then part32 full j 0 else full.map V32
theorem wl32_next (full : List (BitVec 32)) (j : Nat) (x : BitVec 32) (hx : full[j]? = some x) (hl : full.length = 64) (hj : j < 64) : part32 full j x = wl32 full (j + 1) := by
  unfold wl32
  by_cases h : j + 1 < 64
  · rw [if_pos h, part32_next _ _ _ hx h]
  · obtain rfl : j = 64 - 1 := by omega
    rw [if_neg (by decide), part32_full _ _ hl hx]
theorem take_set8 {vs : List Value} {k : Nat} {u z : Value} (hu : vs[k]? = some u) (hl : vs.length = 8) (hk : k < 8) : (vs.take k ++ List.replicate (8 - k) z).set k u = vs.take (k + 1) ++ List.replicate (8 - (k + 1)) z := by
  rw [take_snoc hu, show 8 - k = 8 - (k + 1) + 1 by omega, List.replicate_succ]
  have h1 : (vs.take k).length = k := by simp [hl]; omega
  rw [List.set_append_right _ _ (by omega), h1]
  simp
theorem wl32_zero (full : List (BitVec 32)) : wl32 full 0 = List.replicate 64 (.int .u32 0) := by
  unfold wl32
  rw [if_pos (by decide)]
  rfl
theorem wl32_lt (full : List (BitVec 32)) (j : Nat) (hj : j < 64) : wl32 full j = part32 full j 0 := by
  unfold wl32
  rw [if_pos hj]
theorem wl32_all (full : List (BitVec 32)) : wl32 full 64 = full.map V32 := by
  unfold wl32
  rw [if_neg (by decide)]
theorem chunk32_at (bs : List UInt8) (n k i : Nat) (hi : i < n) : (chunkOf bs n k)[i]? = bs[k * n + i]? := by
  rw [chunkOf, List.getElem?_take_of_lt hi, List.getElem?_drop]
/-- The digest's words, at a class of worlds. -/
theorem right32_in {S : World → Prop} (x : InC S) (v : BitVec 32) (m : Int) (h0 : 0 ≤ m) (hn : m ≤ 32) :
    Calls Try.prog 81 #[V32 v, .int .u64 m] x.w fun e w' => e = .returned (V32 (rot32 v m.toNat)) ∧ ∃ y : InC S, w' = y.w :=
  (right32_any x.w v m.toNat m (by omega) (by omega)).mono fun e w' ⟨h1, h2⟩ => ⟨h1, x, h2⟩

/-- A round as the answer reckons it. -/
def rndA32 (u : St32) (k w : BitVec 32) : Array Value :=
  #[V32 ((u.h + (rot32 u.e 6 ^^^ rot32 u.e 11 ^^^ rot32 u.e 25) + ((u.e &&& u.f) + (~~~u.e &&& u.g)) + k + w) + ((rot32 u.a 2 ^^^ rot32 u.a 13 ^^^ rot32 u.a 22) + (u.a &&& u.b ||| u.a &&& u.c ||| u.b &&& u.c))), V32 u.a, V32 u.b, V32 u.c,
    V32 (u.d + (u.h + (rot32 u.e 6 ^^^ rot32 u.e 11 ^^^ rot32 u.e 25) + ((u.e &&& u.f) + (~~~u.e &&& u.g)) + k + w)), V32 u.e, V32 u.f, V32 u.g]
theorem rndA32_eq (u : St32) (k w : BitVec 32) : (rndA32 u k w).toList = cells32 (rnd32 u k w) := by
  unfold rndA32 rnd32 cells32 mx321 mx320
  simp only [ch32]
set_option maxRecDepth 100000 in
set_option maxHeartbeats 8000000 in
theorem ref32_any (w : World) (A : Option Addr) (n c : Nat) (text : List UInt8) (hr : RB w A n text) (hn : n ≤ 70368744177664) :
    Calls Try.prog 26 #[.slice A n c] w fun e w' => e = .returned (.agg ((digest32 K32 H32 text).map B8).toArray) ∧ Below w.heap.size w w' := by
  obtain ⟨Kt, K, hT, hKj, hKl, hKd⟩ : ∃ (Kt : List (BitVec 64)) (K : List (BitVec 32)), (∀ w : World, Calls Try.prog 79 #[] w fun e w' => e = .returned (.slice (some ⟨w.heap.size, 0, none⟩) 80 80) ∧ w.alloc (.cells (Kt.map V64).toArray 107) = w') ∧
      (∀ j, j < 64 → ∃ x, Kt[j]? = some x ∧ K[j]? = some (cv32 x)) ∧ Kt.length = 80 ∧ K = K32 := ⟨K64, K32, ref_table, kt32_at, K64_len, rfl⟩
  obtain ⟨Hs, s0, hR, hHj, hsd⟩ : ∃ (Hs : List Value) (s0 : St32), (∀ w : World, Calls Try.prog 78 #[] w fun e w' => e = .returned (.slice (some ⟨w.heap.size, 0, none⟩) 8 8) ∧ w.alloc (.cells Hs.toArray 107) = w') ∧
      (∀ k, k < 8 → ∃ x : BitVec 64, Hs[k]? = some (V64 x) ∧ (cells32 s0)[k]? = some (V32 (cv32 x))) ∧ s0 = H32 := ⟨_, H32, ref_roots, h32_at, rfl⟩
  rw [← hKd, ← hsd]
  have hlen := hr.len
  have hpl := padded32_len text
  have hdg : digest32 K s0 text = out32 (pieces32 K s0 (padded32 text) (cnt32 n)) 8 := by rw [digest32, hlen]
  rw [hlen] at hpl
  have hcb : cnt32 n * 64 ≤ n + 300 := by unfold cnt32; have := zc32_lt n; omega
  obtain ⟨D, hD⟩ : ∃ D, D = digest32 K s0 text := ⟨_, rfl⟩
  rw [← hD] at hdg ⊢
  obtain ⟨pad, hpad⟩ : ∃ pad, pad = padded32 text := ⟨_, rfl⟩
  rw [← hpad] at hpl hdg
  obtain ⟨cnt, hcnt⟩ : ∃ cnt, cnt = cnt32 n := ⟨_, rfl⟩
  rw [← hcnt] at hpl hdg hcb
  have hdl : D.length = 32 := by rw [hD, digest32_len]
  obtain ⟨L, hL⟩ : ∃ L, L = cnt * 64 := ⟨_, rfl⟩
  rw [← hL] at hpl hcb
  have HDg := Lib.hid hdg
  have HDl := Lib.hid hdl
  have Hpl := Lib.hid hpl
  have HL := Lib.hid hL
  have Hpad := Lib.hid hpad
  have HKj := Lib.hid hKj
  have HKl := Lib.hid hKl
  have HHj := Lib.hid hHj
  have hcL : cnt * 64 ≤ L := by omega
  clear hdg hdl hpl hL hKj hKl hHj hD hpad hcnt hKd hsd hlen
  go_enter Try.func26, Try.ntmps26
  go_wp2_with fail
  refine (hR _).mono ?_
  rintro e w1 ⟨rfl, hw1⟩
  have hs1 : w1.heap.size = w.heap.size + 3 := by rw [← hw1]; simp
  go_wp2_with fail
  refine (hT _).mono ?_
  rintro e w2 ⟨rfl, hw2⟩
  rw [hs1]
  have hb1 : Below w.heap.size w w1 := by rw [← hw1]; exact (((Below.refl _ _).alloc (Nat.le_refl _) _).alloc (by simp) _).alloc (by simp; omega) _
  have hb2 : Below w.heap.size w w2 := by rw [← hw2]; exact hb1.alloc hb1.size _
  have hS : Rf32 w Kt (w.heap.size + 3) (Kt.map V64).toArray 107 ((cells32 s0).take 0 ++ List.replicate (8 - 0) (.int .u32 0)) w2 := by
    have t1 : w2.heap[w.heap.size + 3]? = some (.cells (Kt.map V64).toArray 107 (0, 0)) := by rw [← hw2]; exact heap_alloc_at _ _ _ hs1
    refine ⟨hb2, Nat.le_refl _, ?_, ?_, t1, t1⟩
    · rw [← hw2, ← hw1]
      exact (Below.heap_alloc _ _ _ (by simp <;> omega)).trans ((Below.heap_alloc _ _ _ (by simp <;> omega)).trans ((Below.heap_alloc _ _ _ (by simp <;> omega)).trans (heap_alloc_new w _)))
    · rw [← hw2, ← hw1]
      exact (Below.heap_alloc _ _ _ (by simp <;> omega)).trans ((Below.heap_alloc _ _ _ (by simp <;> omega)).trans (heap_alloc_at _ _ _ (by simp)))
  have hRt : w2.heap[w.heap.size + 2]? = some (.cells Hs.toArray 107 (0, 0)) := by
    rw [← hw2, ← hw1]
    exact (Below.heap_alloc _ _ _ (by simp)).trans (heap_alloc_at _ _ _ (by simp))
  have HS := Lib.hid (And.intro hS hRt)
  clear hS hRt hb2 hb1 hs1 hw2 hw1 hR hT
  go_wp2_with fail
  go_loopw [6] (fun i wr => ∃ k : Nat, k ≤ 8 ∧ i = .int .i64 k ∧ Hid (Rf32 w Kt (w.heap.size + 3) (Kt.map V64).toArray 107 ((cells32 s0).take k ++ List.replicate (8 - k) (.int .u32 0)) wr ∧ wr.heap[w.heap.size + 2]? = some (.cells Hs.toArray 107 (0, 0)))) (fun i _ => 8 - (intOf i).toNat)
  case atStart => exact ⟨0, by omega, rfl, HS⟩
  case round =>
    obtain ⟨k, hk, rfl, hq⟩ := hrel
    by_cases hkl : k < 8
    · obtain ⟨x, hx1, hx2⟩ := HHj.out k hkl
      have cR : wr.cell? ⟨w.heap.size + 2, k, none⟩ = some (V64 x) := by rw [cell_of_row _ _ _ _ _ _ hq.out.2]; simp [hx1]
      have zz : ∀ t k', binOp .shr t (V64 x) (.int k' 32) = pure (V64 (x >>> 32)) := fun t k' => binOp_shr64 t k' x 32 32 rfl (by decide)
      have hst := hq.out.1.seth k (V32 (cv32 x))
      rw [take_set8 hx2 rfl hkl] at hst
      have hfr : wr.frozen? ⟨w.heap.size + 1, k, none⟩ = false := frozen_blk hq.out.1.hbk _
      obtain ⟨c0, hcl⟩ : ∃ c, wr.cell? ⟨w.heap.size + 1, k, none⟩ = some c := by
        rw [cell_of_row _ _ _ _ _ _ hq.out.1.hbk]
        exact ⟨_, Array.getElem?_eq_getElem (by simp [cells32]; omega)⟩
      have hrt : (wr.setCell ⟨w.heap.size + 1, k, none⟩ (V32 (cv32 x))).heap[w.heap.size + 2]? = some (.cells Hs.toArray 107 (0, 0)) := by rw [Below.heap_setCell _ _ _ _ (by simp)]; exact hq.out.2
      have Hst := Lib.hid (And.intro hst hrt)
      clear hst hrt hx1 hx2 hq
      go_wp2_with fail
      simp only [run_storeCells_w32]
      go_simp
      go_wp2
      go_roundw
      case rel => exact ⟨k + 1, by omega, by go_num, Hst⟩
      case measure => simp [intOf]; omega
    · obtain rfl : k = 8 := by omega
      have hf0 : Rf32 w Kt (w.heap.size + 3) (Kt.map V64).toArray 107 (cells32 s0) wr := hq.out.1
      have hb0 := hf0.below
      have hz0 : w.heap.size + 4 ≤ wr.heap.size := hf0.glt
      clear hq HS
      go_wp2_with fail
      refine (refpad32_any _ A n c text (hr.below hb0) hn).mono ?_
      rintro e w3 ⟨v, rfl, hown, hb3⟩
      rw [← Hpad.out] at hown
      have hLp : 0 < pad.length := by
        have h1 := Hpad.out
        rw [h1, padded32]
        simp <;> omega
      obtain ⟨g, cg, cur, rfl, hg0, hgb, hcur⟩ := own_blk hown hLp
      have hf3 := hf0.stable hb3
      have hf : Rf32 w Kt g cur 5 (cells32 (pieces32 K s0 pad 0)) w3 := ⟨hf3.below, by omega, hf3.res, hf3.hbk, hf3.tab, hgb⟩
      have hcu : ∀ i (ch : UInt8), pad[i]? = some ch → cur[i]? = some (B8 ch) := fun i ch hi => by
        rw [hcur i (List.getElem?_eq_some_iff.1 hi).1, List.getElem?_map, hi]; rfl
      have hpl := Hpl.out
      rw [hpl]
      have Hcu := Lib.hid hcu
      have Hf := Lib.hid hf
      clear hcu hf hf3 hf0 hcur hgb hg0 hown hb3 hb0 hz0 hLp hpl
      go_wp2_with fail
      go_loopw [8] (fun a wr => ∃ k : Nat, k ≤ cnt ∧ a = .int .i64 ((k * 64 : Nat) : Int) ∧ Hid (Rf32 w Kt g cur 5 (cells32 (pieces32 K s0 pad k)) wr)) (fun a _ => L - (intOf a).toNat)
      case atStart => exact ⟨0, Nat.zero_le _, rfl, Hf⟩
      case round =>
        obtain ⟨k, hk, rfl, hq⟩ := hrel
        obtain ⟨m, hm⟩ : ∃ m, m = k * 64 := ⟨_, rfl⟩
        rw [← hm]
        by_cases hkl : k < cnt
        ·
          --<C
          have hmL : m + 64 ≤ L := by
            have := HL.out
            have h2 : (k + 1) * 64 ≤ cnt * 64 := Nat.mul_le_mul_right _ hkl
            omega
          have hmL' : m < L := by omega
          have hpn : pieces32 K s0 pad (k + 1) = pieceSt32 K (pieces32 K s0 pad k) (chunkOf pad 64 k) := rfl
          obtain ⟨s, hs⟩ : ∃ s, s = pieces32 K s0 pad k := ⟨_, rfl⟩
          rw [← hs] at hpn hq
          have hcA : ∀ i (ch : UInt8), (chunkOf pad 64 k)[i]? = some ch → i < 64 → cur[m + i]? = some (B8 ch) := fun i ch h hi => Hcu.out _ _ (by
            rw [chunk32_at _ _ _ _ hi] at h
            rw [hm]
            exact h)
          have hql : (chunkOf pad 64 k).length = 64 := chunkOf_len (by rw [Hpl.out, HL.out]) hkl
          obtain ⟨q, hqe⟩ : ∃ q, q = chunkOf pad 64 k := ⟨_, rfl⟩
          rw [← hqe] at hpn hcA hql
          have hw16 := words32_len q
          have hfl : (sched32 (words32 q) (64 - 16)).length = 64 := by rw [sched32_len, hw16]
          have hlo : ∀ j, j < 16 → (sched32 (words32 q) (64 - 16))[j]? = some (be32 (chunkOf q 4 j)) := fun j hj => by
            rw [sched32_low _ _ _ (by omega)]
            simp [words32, hj]
          have hhi : ∀ j, 16 ≤ j → j < 64 → (sched32 (words32 q) (64 - 16))[j]? = some (nextW32 ((sched32 (words32 q) (64 - 16)).take j)) := fun j h1 h2 => sched32_take _ _ _ (by omega) (by omega)
          have hpc : pieceSt32 K s q = addSt32 s (rnds32 K (sched32 (words32 q) (64 - 16)) s 64) := rfl
          rw [hpc] at hpn
          obtain ⟨full, hfe⟩ : ∃ full, full = sched32 (words32 q) (64 - 16) := ⟨_, rfl⟩
          rw [← hfe] at hpn hfl hlo hhi
          have Hpn := Lib.hid hpn
          have HcA := Lib.hid hcA
          have Hql := Lib.hid hql
          have Hfl := Lib.hid hfl
          have Hlo := Lib.hid hlo
          have Hhi := Lib.hid hhi
          have Hm := Lib.hid hm
          clear hpn hcA hql hfl hlo hhi hm hs hqe hfe hpc hw16
          obtain ⟨wo, rfl⟩ : ∃ wo : World, wo = wr := ⟨_, rfl⟩
          have hz := hq.out.glt
          have hG0 : ∀ ob : Array Value, ob = (wl32 full 0).toArray → Rg32 w Kt g cur 5 (cells32 s) wo.heap.size 112 (wl32 full 0) (wo.alloc (.cells ob 112)) := fun ob e => by
            subst e
            exact ⟨hq.out.stable ((Below.refl _ _).alloc (Nat.le_refl _) _), hz, heap_alloc_new _ _⟩
          have HG0 := Lib.hid hG0
          clear hG0 hq
          go_wp2_with fail
          go_loopw [10] (fun t wr => ∃ j : Nat, j ≤ 64 ∧ t = .int .i64 j ∧ Hid (Rg32 w Kt g cur 5 (cells32 s) wo.heap.size 112 (wl32 full j) wr)) (fun t _ => 64 - (intOf t).toNat)
          case atStart => exact ⟨0, by omega, rfl, Lib.hid (HG0.out _ (by rw [wl32_zero]; rfl))⟩
          case round =>
            obtain ⟨j, hj, rfl, hq⟩ := hrel
            by_cases hjl : j < 64
            · have d1 : decide ((j : Int) < 64) = true := decide_eq_true (by omega)
              by_cases hj16 : j < 16
              ·
                --<A
                have d2 : decide ((j : Int) < 16) = true := decide_eq_true (by omega)
                have hcl : (chunkOf q 4 j).length = 4 := chunkOf_len (cnt := 16) (by rw [Hql.out]) hj16
                have hfj := Hlo.out j hj16
                have hca : ∀ i (ch : UInt8), (chunkOf q 4 j)[i]? = some ch → i < 4 → cur[m + (4 * j + i)]? = some (B8 ch) := fun i ch h hi => HcA.out _ _ (by
                  rw [chunk32_at _ _ _ _ hi] at h
                  rw [Nat.mul_comm]
                  exact h) (by omega)
                obtain ⟨cq, hcq⟩ : ∃ cq, cq = chunkOf q 4 j := ⟨_, rfl⟩
                rw [← hcq] at hcl hfj hca
                have Hcl := Lib.hid hcl
                have Hfj := Lib.hid hfj
                have Hca := Lib.hid hca
                have hP0 : Hid (Rg32 w Kt g cur 5 (cells32 s) wo.heap.size 112 (part32 full j (be32 (cq.take 0))) wr) := Lib.hid (by
                  have h := hq.out
                  rw [wl32_lt full j hjl] at h
                  exact h)
                clear hcl hfj hca hcq hq
                go_wp2_with fail
                obtain ⟨wp, rfl⟩ : ∃ wp : World, wp = wr := ⟨_, rfl⟩
                go_loopw [11] (fun i wr => ∃ i' : Nat, i' ≤ 4 ∧ i = .int .i64 i' ∧ Hid (Rg32 w Kt g cur 5 (cells32 s) wo.heap.size 112 (part32 full j (be32 (cq.take i'))) wr)) (fun i _ => 4 - (intOf i).toNat)
                case atStart => exact ⟨0, by omega, rfl, hP0⟩
                case round =>
                  obtain ⟨i', hi', rfl, hq⟩ := hrel
                  by_cases hil : i' < 4
                  · have d3 : decide ((i' : Int) < 4) = true := decide_eq_true (by omega)
                    have hch : cq[i']? = some (cq.getD i' 0) := by rw [List.getD_eq_getElem?_getD, List.getElem?_eq_getElem (by rw [Hcl.out]; exact hil)]; rfl
                    obtain ⟨ch, hce⟩ : ∃ ch, ch = cq.getD i' 0 := ⟨_, rfl⟩
                    rw [← hce] at hch
                    have hbt := be32_take cq i' ch hch
                    obtain ⟨x0, hx0⟩ : ∃ x0, x0 = be32 (cq.take i') := ⟨_, rfl⟩
                    rw [← hx0] at hbt hq
                    rw [← be32_step] at hbt
                    have hcc := Hca.out i' ch hch hil
                    obtain ⟨jb, hjb⟩ : ∃ jb, jb = 4 * j := ⟨_, rfl⟩
                    obtain ⟨mj, hmj⟩ : ∃ mj, mj = m + jb := ⟨_, rfl⟩
                    obtain ⟨mi, hmi⟩ : ∃ mi, mi = mj + i' := ⟨_, rfl⟩
                    have hmi2 : m + (4 * j + i') = mi := by omega
                    rw [hmi2] at hcc
                    have e1 : (4 : Int) * (j : Int) = (jb : Int) := by omega
                    have e2 : (m : Int) + (jb : Int) = (mj : Int) := by omega
                    have e3 : (mj : Int) + (i' : Int) = (mi : Int) := by omega
                    have b1 : jb ≤ 1000 := by omega
                    have b2 : mj ≤ L := by omega
                    have b3 : mi < L := by omega
                    obtain ⟨S, hS⟩ : ∃ S : World → Prop, S = fun u => Rg32 w Kt g cur 5 (cells32 s) wo.heap.size 112 (part32 full j x0) u := ⟨_, rfl⟩
                    have Sd : S wr.drew := by rw [hS]; exact hq.out.stable (below_drewN (Below.refl _ _) 1)
                    have Sx : ∀ u, S u → Rg32 w Kt g cur 5 (cells32 s) wo.heap.size 112 (part32 full j x0) u := by rw [hS]; exact fun _ h => h
                    have hne : Nonempty (InC S) := ⟨⟨_, Sd⟩⟩
                    have F1 : ∀ x : InC S, x.w.cell? ⟨wo.heap.size, j, none⟩ = some (V32 x0) := fun x => by
                      rw [cell_of_row _ _ _ _ _ _ (Sx _ x.ok).blk]
                      simpa using part32_at full j x0 Hfl.out hjl
                    have F2 : ∀ x : InC S, x.w.cell? ⟨g, mi, none⟩ = some (.int .u8 (ch.toNat : Int)) := fun x => by
                      rw [cell_of_row _ _ _ _ _ _ (Sx _ x.ok).rf.pad]
                      exact hcc
                    have Sd' := Lib.hid Sd
                    have Sx' := Lib.hid Sx
                    have Hbt := Lib.hid hbt
                    clear hq hcc hch hce hbt hx0 hS Sd Sx hjb hmj hmi hmi2
                    go_wp2_with fail
                    refine wp_region_quietTailIn 17 S (by kernel_rfl) (by kernel_rfl) Sd'.out ?_
                    simp only [List.take_succ_cons, List.take_zero, List.drop_succ_cons, List.drop_zero]
                    repeat (go_big_quiet_step (fail))
                    refine wpQuiet_nil ?_
                    rintro _ ⟨x, rfl⟩
                    have f1 := F1 x
                    have fz : x.w.frozen? ⟨wo.heap.size, j, none⟩ = false := frozen_blk (Sx'.out _ x.ok).blk _
                    have hY0 := (Sx'.out _ x.ok).set j (V32 (x0 * 256#32 + BitVec.ofNat 32 ch.toNat))
                    rw [part32_set _ _ _ _ Hfl.out hjl] at hY0
                    have hY : Rg32 w Kt g cur 5 (cells32 s) wo.heap.size 112 (part32 full j (be32 (cq.take (i' + 1)))) (x.w.setCell ⟨wo.heap.size, j, none⟩ (V32 (x0 * 256#32 + BitVec.ofNat 32 ch.toNat))) := by
                      rw [Hbt.out]
                      exact hY0
                    have HY := Lib.hid hY
                    clear hY hY0 F1 F2 hne
                    go_wp2_with fail
                    simp only [run_storeCells_w32]
                    go_simp
                    go_wp2
                    go_roundw
                    case rel => exact ⟨i' + 1, hil, by go_num, HY⟩
                    case measure => simp [intOf]; omega
                  · obtain rfl : i' = 4 := by omega
                    have hN : Rg32 w Kt g cur 5 (cells32 s) wo.heap.size 112 (wl32 full (j + 1)) wr := by
                      have h1 := hq.out
                      rw [List.take_of_length_le (by rw [Hcl.out]; exact Nat.le_refl _), wl32_next full j _ Hfj.out Hfl.out hjl] at h1
                      exact h1
                    have HN := Lib.hid hN
                    clear hN hq
                    go_wp2_with fail
                    go_roundw
                    case rel => exact ⟨j + 1, hjl, by go_num, HN⟩
                    case measure => simp [intOf]; omega
                -->A
              ·
                --<A
                have d2 : decide ((j : Int) < 16) = false := decide_eq_false (by omega)
                have hfj := Hhi.out j (by omega) hjl
                have htl : (full.take j).length = j := by rw [List.length_take, Hfl.out]; omega
                have hg : ∀ i, i < j → full[i]? = some ((full.take j).getD i 0) := fun i hi => by
                  rw [List.getD_eq_getElem?_getD, List.getElem?_take_of_lt hi, List.getElem?_eq_getElem (by rw [Hfl.out]; omega)]
                  rfl
                obtain ⟨i2, hi2⟩ : ∃ i2, i2 = j - 2 := ⟨_, rfl⟩
                obtain ⟨i7, hi7⟩ : ∃ i7, i7 = j - 7 := ⟨_, rfl⟩
                obtain ⟨i15, hi15⟩ : ∃ i15, i15 = j - 15 := ⟨_, rfl⟩
                obtain ⟨i16, hi16⟩ : ∃ i16, i16 = j - 16 := ⟨_, rfl⟩
                rw [nextW32, htl, ← hi2, ← hi7, ← hi15, ← hi16] at hfj
                have g2 := hg i2 (by omega)
                have g7 := hg i7 (by omega)
                have g15 := hg i15 (by omega)
                have g16 := hg i16 (by omega)
                generalize (full.take j).getD i2 0 = x2 at hfj g2
                generalize (full.take j).getD i7 0 = x7 at hfj g7
                generalize (full.take j).getD i15 0 = x15 at hfj g15
                generalize (full.take j).getD i16 0 = x16 at hfj g16
                have e2 : (j : Int) - 2 = (i2 : Int) := by omega
                have e7 : (j : Int) - 7 = (i7 : Int) := by omega
                have e15 : (j : Int) - 15 = (i15 : Int) := by omega
                have e16 : (j : Int) - 16 = (i16 : Int) := by omega
                have l2 : i2 < 64 := by omega
                have l7 : i7 < 64 := by omega
                have l15 : i15 < 64 := by omega
                have l16 : i16 < 64 := by omega
                obtain ⟨ws, hws⟩ : ∃ ws, ws = part32 full j 0 := ⟨_, rfl⟩
                have p2 := part32_low full j i2 0 x2 g2 (by omega) hjl
                have p7 := part32_low full j i7 0 x7 g7 (by omega) hjl
                have p15 := part32_low full j i15 0 x15 g15 (by omega) hjl
                have p16 := part32_low full j i16 0 x16 g16 (by omega) hjl
                have p0 := part32_at full j 0 Hfl.out hjl
                have pn := part32_set full j 0 (mx323 x2 + x7 + mx322 x15 + x16) Hfl.out hjl
                rw [wl32_next full j _ hfj Hfl.out hjl] at pn
                have hqo := hq.out
                rw [wl32_lt full j hjl] at hqo
                rw [← hws] at p2 p7 p15 p16 p0 pn hqo
                obtain ⟨S, hS⟩ : ∃ S : World → Prop, S = fun u => Rg32 w Kt g cur 5 (cells32 s) wo.heap.size 112 ws u := ⟨_, rfl⟩
                have Sd : S wr.drew := by rw [hS]; exact hqo.stable (below_drewN (Below.refl _ _) 1)
                have Sx : ∀ u, S u → Rg32 w Kt g cur 5 (cells32 s) wo.heap.size 112 ws u := by rw [hS]; exact fun _ h => h
                have hne : Nonempty (InC S) := ⟨⟨_, Sd⟩⟩
                have FW : ∀ (i : Nat) (y : BitVec 32), ws[i]? = some (V32 y) → ∀ x : InC S, x.w.cell? ⟨wo.heap.size, i, none⟩ = some (V32 y) := fun i y hy x => by
                  rw [cell_of_row _ _ _ _ _ _ (Sx _ x.ok).blk]
                  simpa using hy
                have c2 : wr.cell? ⟨wo.heap.size, i2, none⟩ = some (V32 x2) := by rw [cell_of_row _ _ _ _ _ _ hqo.blk]; simpa using p2
                have c15 : wr.cell? ⟨wo.heap.size, i15, none⟩ = some (V32 x15) := by rw [cell_of_row _ _ _ _ _ _ hqo.blk]; simpa using p15
                have F7 := FW _ _ p7
                have F16 := FW _ _ p16
                have F0 := FW _ _ p0
                have z1 : ∀ t k', binOp .shr t (V32 x2) (.int k' 10) = pure (V32 (x2 >>> 10)) := fun t k' => binOp_shr32 t k' x2 10 10 rfl (by decide)
                have z2 : ∀ t k', binOp .shr t (V32 x15) (.int k' 3) = pure (V32 (x15 >>> 3)) := fun t k' => binOp_shr32 t k' x15 3 3 rfl (by decide)
                have Sd' := Lib.hid Sd
                have Sx' := Lib.hid Sx
                have Pn := Lib.hid pn
                clear hq hqo hS Sd Sx hi2 hi7 hi15 hi16 p2 p7 p15 p16 p0 pn FW g2 g7 g15 g16 hfj htl hg hws
                go_wp2_with fail
                refine wp_region_quietTailIn 29 S (by kernel_rfl) (by kernel_rfl) Sd'.out ?_
                simp only [List.take_succ_cons, List.take_zero, List.drop_succ_cons, List.drop_zero]
                repeat (go_big_quiet_step (first | (go_at_call 81; exact right32_in _ _ _ (by decide) (by decide))))
                refine wpQuiet_nil ?_
                rintro _ ⟨x, rfl⟩
                have f0 := F0 x
                have fz : x.w.frozen? ⟨wo.heap.size, j, none⟩ = false := frozen_blk (Sx'.out _ x.ok).blk _
                have hY := (Sx'.out _ x.ok).set j (V32 (mx323 x2 + x7 + mx322 x15 + x16))
                rw [Pn.out] at hY
                have HY := Lib.hid hY
                clear hY F0 F7 F16 hne
                go_wp2_with fail
                simp only [run_storeCells_w32]
                go_simp
                go_wp2
                go_roundw
                case rel => exact ⟨j + 1, hjl, by go_num, HY⟩
                case measure => simp [intOf]; omega
                -->A
            · obtain rfl : j = 64 := by omega
              have hqo := hq.out
              rw [wl32_all] at hqo
              have HQ := Lib.hid hqo
              have hrh := rangeAt_blk hqo.rf.hbk
              have hi8 : (Try.prog.info? 102).map (·.size) = some (cells32 s).length := by kernel_rfl
              obtain ⟨wq, rfl⟩ : ∃ wq : World, wq = wr := ⟨_, rfl⟩
              clear hq hqo
              go_wp2_with (first
                | ((with_reducible show wpList _ _ _ (⟨_, Op.load 102 _, _, _, _, _⟩ :: _) _ _); refine wpList_load_mid rfl _ _ rfl (w.heap.size + 1) 0 rfl (cells32 s) _ hrh Try.underlying102 rfl hi8 ?_)
                | ((with_reducible show wpList _ _ _ (⟨_, Op.store 102 _ _, _, _, _, _⟩ :: _) _ _); refine wpList_store_row rfl _ _ _ rfl wq.heap.size 0 (cells32 s).toArray rfl rfl (there_new' _ _ _ (by simp [cells32])) (by kernel_rfl) (by simp [cells32]) ?_; intro w8 hg8 hs8 ht8 hth8))
              have hv0 : Rv32 w Kt g cur 5 (cells32 s) wo.heap.size 112 (full.map V32) wq.heap.size (cells32 (rnds32 K full s 0)) w8 :=
                (HQ.out.stable ((Below.refl _ _).alloc (Nat.le_refl _) _)).putV HQ.out.wlt hg8 (by rw [hs8.out]; simp) ht8 (by simpa [cells32] using hth8)
              have HV0 := Lib.hid hv0
              have hWV := hv0.WV
              clear hv0 hg8 hs8 ht8 hth8 hrh hi8 HQ
              go_loopw [15] (fun i wr => ∃ j : Nat, j ≤ 64 ∧ i = .int .i64 j ∧ Hid (Rv32 w Kt g cur 5 (cells32 s) wo.heap.size 112 (full.map V32) wq.heap.size (cells32 (rnds32 K full s j)) wr)) (fun i _ => 64 - (intOf i).toNat)
              case atStart => exact ⟨0, by omega, rfl, HV0⟩
              case round =>
                obtain ⟨j, hj, rfl, hq⟩ := hrel
                by_cases hjl : j < 64
                ·
                  --<B
                  have d1 : decide ((j : Int) < 64) = true := decide_eq_true (by omega)
                  obtain ⟨kx, hk1, hk2⟩ := HKj.out j hjl
                  have hk3 : K.getD j 0 = cv32 kx := by rw [List.getD_eq_getElem?_getD, hk2]; rfl
                  obtain ⟨wx, hwx⟩ : ∃ wx, full[j]? = some wx := ⟨_, List.getElem?_eq_getElem (by rw [Hfl.out]; exact hjl)⟩
                  have hw3 : full.getD j 0 = wx := by rw [List.getD_eq_getElem?_getD, hwx]; rfl
                  have hnx := rnds32_next K full s j
                  rw [hk3, hw3] at hnx
                  obtain ⟨u, hu⟩ : ∃ u, u = rnds32 K full s j := ⟨_, rfl⟩
                  rw [← hu] at hnx hq
                  have hqo := hq.out
                  obtain ⟨S, hS⟩ : ∃ S : World → Prop, S = fun x => Rv32 w Kt g cur 5 (cells32 s) wo.heap.size 112 (full.map V32) wq.heap.size (cells32 u) x := ⟨_, rfl⟩
                  have Sd : ∀ w', S w' → S w'.drew := by rw [hS]; exact fun w' h => h.stable (below_drewN (Below.refl _ _) 1)
                  have Sx : ∀ w', S w' → Rv32 w Kt g cur 5 (cells32 s) wo.heap.size 112 (full.map V32) wq.heap.size (cells32 u) w' := by rw [hS]; exact fun _ h => h
                  have Swr : S wr := by rw [hS]; exact hqo
                  have hne : Nonempty (InC S) := ⟨⟨_, Swr⟩⟩
                  obtain ⟨x0, hx0⟩ : ∃ x0 : InC S, x0.w = wr := ⟨⟨_, Swr⟩, rfl⟩
                  have FV : ∀ (i : Nat) (v : Value), (cells32 u)[i]? = some v → ∀ x : InC S, x.w.cell? ⟨wq.heap.size, i, none⟩ = some v := fun i v hv x => by
                    have := (Sx _ x.ok).rng i v hv
                    rwa [Nat.zero_add] at this
                  have F0 := FV 0 (V32 u.a) rfl
                  have F1 := FV 1 (V32 u.b) rfl
                  have F2 := FV 2 (V32 u.c) rfl
                  have F3 := FV 3 (V32 u.d) rfl
                  have F4 := FV 4 (V32 u.e) rfl
                  have F5 := FV 5 (V32 u.f) rfl
                  have F6 := FV 6 (V32 u.g) rfl
                  have F7 := FV 7 (V32 u.h) rfl
                  have FT : ∀ x : InC S, x.w.cell? ⟨w.heap.size + 3, j, none⟩ = some (V64 kx) := fun x => by
                    rw [cell_of_row _ _ _ _ _ _ (Sx _ x.ok).rg.rf.tab]
                    simp [hk1]
                  have FX : ∀ x : InC S, x.w.cell? ⟨wo.heap.size, j, none⟩ = some (V32 wx) := fun x => by
                    rw [cell_of_row _ _ _ _ _ _ (Sx _ x.ok).rg.blk]
                    simp [hwx]
                  have hj80 : j < 80 := by omega
                  have zz : ∀ t k', binOp .shr t (V64 kx) (.int k' 32) = pure (V64 (kx >>> 32)) := fun t k' => binOp_shr64 t k' kx 32 32 rfl (by decide)
                  have Sd' := Lib.hid Sd
                  have Sx' := Lib.hid Sx
                  have Hnx := Lib.hid hnx
                  have c4 := F4 x0
                  have c0 := F0 x0
                  rw [← hx0]
                  clear hx0 hq hqo Swr Sd Sx hS FV hk1 hk2 hk3 hw3 hnx hwx hu
                  go_wp2_with fail
                  refine wp_region_quietIn S (by kernel_rfl) (by kernel_rfl) (Sd'.out _ x0.ok) ?_
                  repeat (go_big_quiet_step (first | (go_at_call 81; exact right32_in _ _ _ (by decide) (by decide))))
                  refine wpQuiet_nil ?_
                  rintro _ ⟨x3, rfl⟩
                  go_wp2_with fail
                  refine wp_region_quietIn S (by kernel_rfl) (by kernel_rfl) (Sd'.out _ x3.ok) ?_
                  repeat (go_big_quiet_step (first | (go_at_call 81; exact right32_in _ _ _ (by decide) (by decide))))
                  refine wpQuiet_nil ?_
                  rintro _ ⟨x4, rfl⟩
                  have f0 := F0 x4
                  have f1 := F1 x4
                  have f2 := F2 x4
                  have f3 := F3 x4
                  have f4 := F4 x4
                  have f5 := F5 x4
                  have f6 := F6 x4
                  have hX := Sx'.out _ x4.ok
                  have HX := Lib.hid hX
                  have hth := hX.thr
                  clear hX F0 F1 F2 F3 F4 F5 F6 F7 FT FX c4 c0 hne
                  have hi8 : (Try.prog.info? 102).map (·.size) = some 8 := by kernel_rfl
                  have hone : (rndA32 u (cv32 kx) wx).all (·.oneCell') = true := by simp [rndA32]
                  go_wp2_with ((with_reducible show wpList _ _ _ (⟨_, Op.store 102 _ _, _, _, _, _⟩ :: _) _ _); refine wpList_store_row rfl _ _ _ rfl wq.heap.size 0 (rndA32 u (cv32 kx) wx) rfl rfl hth hi8 hone ?_; intro w9 hg9 hs9 ht9 hth9)
                  rw [rndA32_eq, ← Hnx.out] at ht9
                  have HY := Lib.hid (HX.out.rg.putV HX.out.WV hg9 (by rw [hs9.out]; exact HX.out.vlt) ht9 hth9)
                  clear hg9 hs9 ht9 hth9
                  go_roundw
                  case rel => exact ⟨j + 1, hjl, by go_num, HY⟩
                  case measure => simp [intOf]; omega
                  -->B
                · obtain rfl : j = 64 := by omega
                  have hqo := hq.out
                  rw [show cells32 s = mixC32 s (rnds32 K full s 64) 0 from rfl] at hqo
                  have hpn := Hpn.out
                  generalize rnds32 K full s 64 = u at hqo hpn
                  have HQ := Lib.hid hqo
                  have Hpn' := Lib.hid hpn
                  clear hq hqo hpn
                  rw [show ((64 : Nat) : Int) = (64 : Int) from rfl]
                  go_wp2_with fail
                  obtain ⟨wm, rfl⟩ : ∃ wm : World, wm = wr := ⟨_, rfl⟩
                  go_loopw [20] (fun i wr => ∃ i' : Nat, i' ≤ 8 ∧ i = .int .i64 i' ∧ Hid (Rv32 w Kt g cur 5 (mixC32 s u i') wo.heap.size 112 (full.map V32) wq.heap.size (cells32 u) wr)) (fun i _ => 8 - (intOf i).toNat)
                  case atStart => exact ⟨0, by omega, rfl, HQ⟩
                  case round =>
                    obtain ⟨i', hi', rfl, hq⟩ := hrel
                    by_cases hil : i' < 8
                    · have d3 : decide ((i' : Int) < 8) = true := decide_eq_true (by omega)
                      obtain ⟨xs, xu, hx1, hx2, hx3⟩ := mix832 s u i' hil
                      have hqo := hq.out
                      have hz := hqo.vlt
                      obtain ⟨ms, hms⟩ : ∃ ms, ms = mixC32 s u i' := ⟨_, rfl⟩
                      rw [← hms] at hx1 hx3 hqo
                      obtain ⟨S, hS⟩ : ∃ S : World → Prop, S = fun x => Rv32 w Kt g cur 5 ms wo.heap.size 112 (full.map V32) wq.heap.size (cells32 u) x := ⟨_, rfl⟩
                      have Sd : S wr.drew := by rw [hS]; exact hqo.stable (below_drewN (Below.refl _ _) 1)
                      have Sx : ∀ w', S w' → Rv32 w Kt g cur 5 ms wo.heap.size 112 (full.map V32) wq.heap.size (cells32 u) w' := by rw [hS]; exact fun _ h => h
                      have hne : Nonempty (InC S) := ⟨⟨_, Sd⟩⟩
                      have F1 : ∀ x : InC S, x.w.cell? ⟨w.heap.size + 1, i', none⟩ = some (V32 xs) := fun x => by
                        rw [cell_of_row _ _ _ _ _ _ (Sx _ x.ok).rg.rf.hbk]
                        simpa using hx1
                      have F2 : ∀ x : InC S, x.w.cell? ⟨wq.heap.size, i', none⟩ = some (V32 xu) := fun x => by
                        have := (Sx _ x.ok).rng i' _ hx2
                        rwa [Nat.zero_add] at this
                      have Sd' := Lib.hid Sd
                      have Sx' := Lib.hid Sx
                      have Hx3 := Lib.hid hx3
                      clear hq hqo hS Sd Sx hms hx1 hx2 hx3
                      go_wp2_with fail
                      refine wp_region_quietTailIn 9 S (by kernel_rfl) (by kernel_rfl) Sd'.out ?_
                      simp only [List.take_succ_cons, List.take_zero, List.drop_succ_cons, List.drop_zero]
                      repeat (go_big_quiet_step (fail))
                      refine wpQuiet_nil ?_
                      rintro _ ⟨x, rfl⟩
                      have f1 := F1 x
                      have fz : x.w.frozen? ⟨w.heap.size + 1, i', none⟩ = false := frozen_blk (Sx'.out _ x.ok).rg.rf.hbk _
                      have hY := (Sx'.out _ x.ok).seth i' (V32 (xs + xu))
                      rw [Hx3.out] at hY
                      have HY := Lib.hid hY
                      clear hY F1 F2 hne
                      go_wp2_with fail
                      simp only [run_storeCells_w32]
                      go_simp
                      go_wp2
                      go_roundw
                      case rel => exact ⟨i' + 1, hil, by go_num, HY⟩
                      case measure => simp [intOf]; omega
                    · obtain rfl : i' = 8 := by omega
                      have hqf := hq.out.rg.rf
                      rw [show mixC32 s u 8 = cells32 (addSt32 s u) from rfl, ← Hpn'.out] at hqf
                      have HY := Lib.hid hqf
                      have hm2 : (k + 1) * 64 = m + 64 := by have := Hm.out; omega
                      have Hm2 := Lib.hid hm2
                      clear hq hqf hm2
                      go_wp2_with fail
                      go_roundw
                      case rel => exact ⟨k + 1, hkl, by rw [Hm2.out]; go_num, HY⟩
                      case measure => simp [intOf]; omega
          -->C
        · obtain rfl : k = cnt := by omega
          have hfin := hq.out
          have hdg := HDg.out
          have hmL : m = L := by rw [hm, HL.out]
          obtain ⟨st, hst⟩ : ∃ st, st = pieces32 K s0 pad k := ⟨_, rfl⟩
          rw [← hst] at hdg hfin
          rw [hmL]
          have hz := hfin.glt
          have hG0 : ∀ ob : Array Value, ob = ((D.take 0).map B8 ++ List.replicate (32 - 0) (Value.int .u8 0)).toArray → Rg32 w Kt g cur 5 (cells32 st) wr.heap.size 26 ((D.take 0).map B8 ++ List.replicate (32 - 0) (.int .u8 0)) (wr.alloc (.cells ob 26)) := fun ob e => by
            subst e
            exact ⟨hfin.stable ((Below.refl _ _).alloc (Nat.le_refl _) _), hz, heap_alloc_new _ _⟩
          have HG0 := Lib.hid hG0
          have hw8 : ∀ i, i < 8 → (cells32 st)[i]? = some (V32 ((words832 st).getD i 0)) := fun i hi => by
            match i, hi with
            | 0, _ | 1, _ | 2, _ | 3, _ | 4, _ | 5, _ | 6, _ | 7, _ => rfl
          have hDi : ∀ i, i < 32 → D[i]? = some (UInt8.ofNat (((words832 st).getD (i / 4) 0) >>> (32 - 8 - 8 * (i % 4))).toNat) := fun i hi => by
            rw [hdg]
            exact out32_at st 8 (Nat.le_refl _) i (by omega)
          have Hw8 := Lib.hid hw8
          have HDi := Lib.hid hDi
          obtain ⟨wo, rfl⟩ : ∃ wo : World, wo = wr := ⟨_, rfl⟩
          clear hG0 hq hfin hdg hst hmL hm hw8 hDi
          go_wp2_with fail
          go_loopw [22] (fun i wr => ∃ i' : Nat, i' ≤ 32 ∧ i = .int .i64 i' ∧ Hid (Rg32 w Kt g cur 5 (cells32 st) wo.heap.size 26 ((D.take i').map B8 ++ List.replicate (32 - i') (.int .u8 0)) wr)) (fun i _ => 32 - (intOf i).toNat)
          case atStart => exact ⟨0, by omega, rfl, Lib.hid (HG0.out _ (by rfl))⟩
          case round =>
            obtain ⟨i', hi', rfl, hq⟩ := hrel
            by_cases hil : i' < 32
            · have d3 : decide ((i' : Int) < 32) = true := decide_eq_true (by omega)
              obtain ⟨q, hqe⟩ : ∃ q, q = i' / 4 := ⟨_, rfl⟩
              obtain ⟨r, hre⟩ : ∃ r, r = i' % 4 := ⟨_, rfl⟩
              have hDx := HDi.out i' hil
              rw [← hqe, ← hre] at hDx
              have hcx := Hw8.out q (by omega)
              generalize (words832 st).getD q 0 = x at hDx hcx
              obtain ⟨sh, hsh⟩ : ∃ sh, sh = 32 - 8 - 8 * r := ⟨_, rfl⟩
              rw [← hsh] at hDx
              have e1 : (i' : Int) / 4 = (q : Int) := by omega
              have e2 : (i' : Int) % 4 = (r : Int) := by omega
              have b1 : q < 8 := by omega
              have b2 : r < 4 := by omega
              have b3 : sh < 32 := by omega
              have cx : wr.cell? ⟨w.heap.size + 1, q, none⟩ = some (V32 x) := by rw [cell_of_row _ _ _ _ _ _ hq.out.rf.hbk]; simpa using hcx
              have zz : ∀ t k', binOp .shr t (V32 x) (.int k' (8 * (3 - (r : Int)))) = pure (V32 (x >>> sh)) := fun t k' => binOp_shr32 t k' x sh _ (by omega) (by omega)
              have fz : wr.frozen? ⟨wo.heap.size, i', none⟩ = false := frozen_blk hq.out.blk _
              have hlen : ((D.take i').map B8).length = i' := by rw [List.length_map, List.length_take, HDl.out]; omega
              obtain ⟨c0, hcl⟩ : ∃ c, wr.cell? ⟨wo.heap.size, i', none⟩ = some c := by
                rw [cell_of_row _ _ _ _ _ _ hq.out.blk]
                exact ⟨_, Array.getElem?_eq_getElem (by simp; rw [HDl.out]; omega)⟩
              have hY := hq.out.set i' (B8 (UInt8.ofNat (x >>> sh).toNat))
              have hnx : ((D.take i').map B8 ++ List.replicate (32 - i') (Value.int .u8 0)).set i' (B8 (UInt8.ofNat (x >>> sh).toNat)) = (D.take (i' + 1)).map B8 ++ List.replicate (32 - (i' + 1)) (.int .u8 0) := by
                rw [take_snoc hDx, show 32 - i' = 32 - (i' + 1) + 1 by omega, List.replicate_succ, List.set_append_right _ _ (by omega), hlen]
                simp
              rw [hnx] at hY
              have HY := Lib.hid hY
              clear hY hnx hlen hq hqe hre hDx hcx hsh
              go_wp2_with fail
              go_roundw
              case rel => exact ⟨i' + 1, hil, by go_num, HY⟩
              case measure => simp [intOf]; omega
            · obtain rfl : i' = 32 := by omega
              have hbk := hq.out.blk
              rw [List.take_of_length_le (by rw [HDl.out]; exact Nat.le_refl _), Nat.sub_self, List.replicate_zero, List.append_nil] at hbk
              have hrf := hq.out.rf
              have hg := rangeAt_blk hbk
              have hi : (Try.prog.info? 26).map (·.size) = some (D.map B8).length := by rw [List.length_map, HDl.out]; kernel_rfl
              have hth := there_blk (n := (D.map B8).toArray.size) hrf.res (by simp [HDl.out])
              have hsz : w.heap.size < wr.heap.size := (Array.getElem?_eq_some_iff.1 hrf.res).1
              have Hb := Lib.hid hrf.below
              have Hsz := Lib.hid hsz
              clear hq hbk hrf hsz
              go_wp2_with (first
                | ((with_reducible show wpList _ _ _ (⟨_, Op.load 26 _, _, _, _, _⟩ :: _) _ _); refine wpList_load_mid rfl _ _ rfl wo.heap.size 0 rfl (D.map B8) _ hg Try.underlying26 rfl hi ?_)
                | ((with_reducible show wpList _ _ _ (⟨_, Op.store 26 _ _, _, _, _, _⟩ :: _) _ _); refine wpList_store_row rfl _ _ _ rfl w.heap.size 0 (D.map B8).toArray rfl rfl hth (by simpa using hi) (b8_all D) ?_; intro w8 hg8 hs8 ht8 hth8))
              refine bodyPost_ret (v := .agg (D.map B8).toArray) ?_ rfl ⟨rfl, ?_⟩
              · exact results_cell (s := 2) rfl _ _ _ w.heap.size 0 rfl (D.map B8) _ (by simpa using ht8) Try.underlying26 rfl hi
              · exact Hb.out.grown hg8 (Nat.le_of_lt Hsz.out) (by intro k hk; cases hk; exact Nat.le_refl _)
end Go.Proofs.Ytkcmacglomdfcaa
