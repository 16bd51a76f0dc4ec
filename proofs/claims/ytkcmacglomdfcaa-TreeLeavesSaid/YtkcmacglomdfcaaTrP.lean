/-
  THE LEVELS, plainly: which digests stand on each; a part of the row out of them.
-/
import Derived.Test.YtkcmacglomdfcaaTrA
namespace Go.Proofs.Ytkcmacglomdfcaa
open Go.RowKit

section
variable (F : Dg → Dg)
/-- Two by two. -/
def pairsF (l : List Dg) : List Dg := (List.range (l.length / 2)).map fun j => nodeF F (l.getD (2 * j) []) (l.getD (2 * j + 1) [])
/-- The whole 2^k leaves' digests. -/
def lev (k : Nat) (ls : List Dg) : List Dg := (List.range (ls.length / 2 ^ k)).map fun j => rootF F ((ls.drop (j * 2 ^ k)).take (2 ^ k))
end
section
variable {F : Dg → Dg}
theorem getD_app {α : Type} {l m : List α} {i : Nat} {d : α} (h : i < l.length) : (l ++ m).getD i d = l.getD i d := by
  simp [List.getD_eq_getElem?_getD, List.getElem?_append_left h]
theorem pairsF_even {l : List Dg} (x : Dg) (h : l.length % 2 = 0) : pairsF F (l ++ [x]) = pairsF F l := by
  unfold pairsF
  rw [List.length_append, List.length_singleton, show (l.length + 1) / 2 = l.length / 2 by omega]
  refine List.map_congr_left fun j hj => ?_
  have := List.mem_range.1 hj
  rw [getD_app (by omega), getD_app (by omega)]
theorem pairsF_odd {l : List Dg} (x : Dg) (h : ¬ l.length % 2 = 0) : pairsF F (l ++ [x]) = pairsF F l ++ [nodeF F (l.getLastD []) x] := by
  unfold pairsF
  rw [List.length_append, List.length_singleton, show (l.length + 1) / 2 = l.length / 2 + 1 by omega, List.range_succ, List.map_append]
  congr 1
  · refine List.map_congr_left fun j hj => ?_
    have := List.mem_range.1 hj
    rw [getD_app (by omega), getD_app (by omega)]
  · rw [List.map_singleton, getD_app (by omega), show 2 * (l.length / 2) + 1 = l.length by omega, show 2 * (l.length / 2) = l.length - 1 by omega]
    have e1 : l.getD (l.length - 1) [] = l.getLastD [] := by
      rw [List.getD_eq_getElem?_getD, ← List.getLast?_eq_getElem?, List.getLastD_eq_getLast?]
    have e2 : (l ++ [x]).getD l.length [] = x := by simp [List.getD_eq_getElem?_getD]
    rw [e1, e2]
theorem treeF_rec (ls : List Dg) : ls ≠ [] → treeF F ls = ls :: treeF F (pairsF F ls) := by
  refine snoc_ind (P := fun ls => ls ≠ [] → treeF F ls = ls :: treeF F (pairsF F ls)) (fun h => absurd rfl h) (fun l x ih _ => ?_) ls
  rw [treeF_snoc]
  by_cases hl : l = []
  · subst hl
    have e : pairsF F ([] ++ [x]) = [] := by simp [pairsF]
    rw [e]
    rfl
  · rw [ih hl, addL]
    split
    · rename_i h
      rw [pairsF_even x h]
    · rename_i h
      rw [pairsF_odd x h, treeF_snoc]
theorem lev_length (k : Nat) (ls : List Dg) : (lev F k ls).length = ls.length / 2 ^ k := by simp [lev]
theorem lev_getD {k j : Nat} {ls : List Dg} (h : j < ls.length / 2 ^ k) : (lev F k ls).getD j [] = rootF F ((ls.drop (j * 2 ^ k)).take (2 ^ k)) := by
  simp [lev, List.getD_eq_getElem?_getD, List.getElem?_range h]
theorem lev_at {k j : Nat} {ls : List Dg} (h : j < ls.length / 2 ^ k) : (lev F k ls)[j]? = some (rootF F ((ls.drop (j * 2 ^ k)).take (2 ^ k))) := by
  simp [lev, List.getElem?_range h]
theorem lev_zero (ls : List Dg) : lev F 0 ls = ls := by
  refine List.ext_getElem? fun j => ?_
  by_cases h : j < ls.length
  · rw [lev_at (by simpa using h)]
    have e : (ls.drop (j * 2 ^ 0)).take (2 ^ 0) = [ls[j]] := by
      rw [Nat.pow_zero, Nat.mul_one, List.drop_eq_getElem_cons h]
      rfl
    rw [e, rootF_one, List.getElem?_eq_getElem h]
  · rw [List.getElem?_eq_none (by rw [lev_length]; simpa using h), List.getElem?_eq_none (by omega)]
theorem chunk_lt {n k j : Nat} (h : j < n / 2 ^ k) : (j + 1) * 2 ^ k ≤ n := by
  have h1 : (j + 1) * 2 ^ k ≤ n / 2 ^ k * 2 ^ k := Nat.mul_le_mul_right _ h
  have h2 := Nat.div_mul_le_self n (2 ^ k)
  omega
theorem pairsF_lev (k : Nat) (ls : List Dg) : pairsF F (lev F k ls) = lev F (k + 1) ls := by
  unfold pairsF
  have hd : ls.length / 2 ^ k / 2 = ls.length / 2 ^ (k + 1) := by rw [Nat.div_div_eq_div_mul, Nat.pow_succ]
  rw [lev_length, hd]
  conv => rhs; unfold lev
  refine List.map_congr_left fun j hj => ?_
  have hj := List.mem_range.1 hj
  rw [← hd] at hj
  have h2 : 2 * j + 1 < ls.length / 2 ^ k := by omega
  rw [lev_getD (by omega), lev_getD h2]
  have hlt := chunk_lt h2
  have hp : 0 < 2 ^ k := Nat.two_pow_pos k
  have hs : (2 * j + 1 + 1) * 2 ^ k = 2 * j * 2 ^ k + 2 ^ k + 2 ^ k := by rw [Nat.add_mul, Nat.add_mul, Nat.one_mul]
  have e : (ls.drop (j * 2 ^ (k + 1))).take (2 ^ (k + 1)) = (ls.drop (2 * j * 2 ^ k)).take (2 ^ k) ++ (ls.drop ((2 * j + 1) * 2 ^ k)).take (2 ^ k) := by
    rw [show j * 2 ^ (k + 1) = 2 * j * 2 ^ k by rw [Nat.pow_succ, Nat.mul_comm 2 j, Nat.mul_assoc, Nat.mul_comm 2]]
    rw [show 2 ^ (k + 1) = 2 ^ k + 2 ^ k by rw [Nat.pow_succ]; omega, List.take_add, List.drop_drop, Nat.add_mul (2 * j) 1, Nat.one_mul]
  rw [e]
  refine (rootF_append (k := k) ?_ ?_ ?_).symm
  · rw [List.length_take, List.length_drop]; omega
  · rw [List.length_take, List.length_drop, Nat.add_mul, Nat.one_mul]; omega
  · rw [List.length_take]; omega
theorem lev_nil_of {j : Nat} {ls : List Dg} (h : lev F j ls = []) (k : Nat) : lev F (j + k) ls = [] := by
  have h1 : ls.length / 2 ^ j = 0 := by rw [← lev_length (F := F), h]; rfl
  refine List.eq_nil_of_length_eq_zero ?_
  rw [lev_length, Nat.pow_add, ← Nat.div_div_eq_div_mul, h1, Nat.zero_div]
theorem treeF_at (ls : List Dg) : ∀ k j, (treeF F (lev F j ls))[k]? = if lev F (j + k) ls = [] then none else some (lev F (j + k) ls)
  | 0, j => by
    by_cases h : lev F j ls = []
    · rw [Nat.add_zero, if_pos h, h]; rfl
    · rw [Nat.add_zero, if_neg h, treeF_rec _ h]; rfl
  | k + 1, j => by
    by_cases h : lev F j ls = []
    · rw [if_pos (lev_nil_of h _), h]; rfl
    · rw [treeF_rec _ h, List.getElem?_cons_succ, pairsF_lev, treeF_at ls k (j + 1), show j + 1 + k = j + (k + 1) by omega]
theorem treeF_level (ls : List Dg) (k : Nat) : (treeF F ls)[k]? = if ls.length < 2 ^ k then none else some (lev F k ls) := by
  have h := treeF_at (F := F) ls k 0
  rw [lev_zero, Nat.zero_add] at h
  rw [h]
  have hl := lev_length (F := F) k ls
  by_cases hk : ls.length < 2 ^ k
  · rw [if_pos hk, if_pos (List.eq_nil_of_length_eq_zero (by rw [hl]; exact Nat.div_eq_of_lt hk))]
  · rw [if_neg hk, if_neg fun e => ?_]
    rw [e, List.length_nil] at hl
    have := Nat.div_pos (Nat.le_of_not_lt hk) (Nat.two_pow_pos k)
    omega

/-! ### A part of the row -/
/-- The lowest bit's place (below 128). -/
def lowk (n : Nat) : Nat := if n % 2 = 1 then 0 else if n % 4 = 2 then 1 else if n % 8 = 4 then 2 else if n % 16 = 8 then 3 else if n % 32 = 16 then 4 else if n % 64 = 32 then 5 else 6
theorem lowk_all : ∀ n, n < 128 → 0 < n → lowk n ≤ 6 ∧ 2 ^ lowk n ≤ n ∧ n % 2 ^ lowk n = 0 ∧ n % 2 ^ (lowk n + 1) = 2 ^ lowk n := by decide +kernel
/-- From the end: what is put together so far. -/
def PartI (F : Dg → Dg) (ls : List Dg) (fr n m : Nat) (out : Dg) : Prop := m ≤ n ∧ (m < n → out = rootF F ((ls.drop (fr + m)).take (n - m))) ∧ ∃ t, 2 ^ t ∣ m ∧ n - m < 2 ^ t
theorem PartI.start (F : Dg → Dg) (ls : List Dg) (fr n : Nat) (out : Dg) : PartI F ls fr n n out := ⟨Nat.le_refl _, fun h => absurd h (by omega), 0, by simp, by simp⟩
theorem PartI.done {F : Dg → Dg} {ls : List Dg} {fr n : Nat} {out : Dg} (h : PartI F ls fr n 0 out) (h0 : 0 < n) : out = rootF F ((ls.drop fr).take n) := h.2.1 h0
/-- Where a part begins: no more leaves than the power of two that divides its place. -/
def PartAt (fr n : Nat) : Prop := ∃ p, 2 ^ p ∣ fr ∧ n ≤ 2 ^ p
theorem PartAt.zero (n : Nat) : PartAt 0 n := ⟨n, Nat.dvd_zero _, Nat.le_of_lt Nat.lt_two_pow_self⟩
/-- The place of the next piece, and the piece. -/
theorem PartI.step {F : Dg → Dg} {ls : List Dg} {fr n m : Nat} {out : Dg} (h : PartI F ls fr n m out) (ha : PartAt fr n) (hm0 : 0 < m) (hm : m < 128) (hl : fr + n ≤ ls.length) :
    ∃ s, (lev F (lowk m) ls)[(fr + (m - 2 ^ lowk m)) / 2 ^ lowk m]? = some s ∧ 2 ^ lowk m ≤ ls.length ∧ (m = n → PartI F ls fr n (m - 2 ^ lowk m) s) ∧ (m < n → PartI F ls fr n (m - 2 ^ lowk m) (nodeF F s out)) := by
  obtain ⟨-, hle, hz, hz1⟩ := lowk_all m hm hm0
  obtain ⟨k, hk⟩ : ∃ k, k = lowk m := ⟨_, rfl⟩
  rw [← hk] at hle hz hz1 ⊢
  clear hk
  obtain ⟨h1, h2, t, ht, ht2⟩ := h
  obtain ⟨p, hp, hnp⟩ := ha
  have hpow : 2 ^ (k + 1) = 2 ^ k + 2 ^ k := by rw [Nat.pow_succ]; omega
  have hkp : k ≤ p := (Nat.pow_le_pow_iff_right (a := 2) (by decide)).1 (by omega)
  have hfr : 2 ^ k ∣ fr := Nat.dvd_trans (Nat.pow_dvd_pow 2 hkp) hp
  have hmk : 2 ^ k ∣ m := Nat.dvd_of_mod_eq_zero hz
  have hm2 : 2 ^ (k + 1) ∣ m - 2 ^ k := by
    have := Nat.dvd_sub_mod (n := 2 ^ (k + 1)) m
    rwa [hz1] at this
  have htk : t ≤ k := by
    rcases Nat.lt_or_ge k t with h | h
    · have h3 : 2 ^ (k + 1) ∣ m := Nat.dvd_trans (Nat.pow_dvd_pow 2 h) ht
      have h4 := Nat.mod_eq_zero_of_dvd h3
      have := Nat.two_pow_pos k
      omega
    · exact h
  have htk2 : 2 ^ t ≤ 2 ^ k := Nat.pow_le_pow_right (by decide) htk
  have hs : 2 ^ k ∣ fr + (m - 2 ^ k) := Nat.dvd_add hfr (Nat.dvd_sub hmk (Nat.dvd_refl _))
  have hsm : (fr + (m - 2 ^ k)) / 2 ^ k * 2 ^ k = fr + (m - 2 ^ k) := Nat.div_mul_cancel hs
  have hlt : (fr + (m - 2 ^ k)) / 2 ^ k < ls.length / 2 ^ k := by
    rw [Nat.div_lt_iff_lt_mul (Nat.two_pow_pos k)]
    have h5 : fr + (m - 2 ^ k) + 2 ^ k ≤ ls.length := by omega
    obtain ⟨c, hc⟩ := hs
    rw [hc] at h5 ⊢
    have h6 : c + 1 ≤ ls.length / 2 ^ k := by
      rw [Nat.le_div_iff_mul_le (Nat.two_pow_pos k), Nat.add_mul, Nat.one_mul, Nat.mul_comm c]
      exact h5
    have h7 := Nat.mul_le_mul_right (2 ^ k) h6
    rw [Nat.add_mul, Nat.one_mul, Nat.mul_comm c] at h7
    have := Nat.two_pow_pos k
    omega
  refine ⟨_, lev_at hlt, by omega, fun e => ?_, fun hlt' => ?_⟩
  · subst e
    refine ⟨by omega, fun _ => ?_, k + 1, hm2, by omega⟩
    rw [hsm, show m - (m - 2 ^ k) = 2 ^ k by omega]
  · refine ⟨by omega, fun _ => ?_, k + 1, hm2, by omega⟩
    rw [hsm, h2 hlt']
    have e : (ls.drop (fr + (m - 2 ^ k))).take (n - (m - 2 ^ k)) = (ls.drop (fr + (m - 2 ^ k))).take (2 ^ k) ++ (ls.drop (fr + m)).take (n - m) := by
      rw [show n - (m - 2 ^ k) = 2 ^ k + (n - m) by omega, List.take_add, List.drop_drop, show fr + (m - 2 ^ k) + 2 ^ k = fr + m by omega]
    rw [e]
    refine (rootF_append (k := k) ?_ ?_ ?_).symm
    · rw [List.length_take, List.length_drop]; omega
    · rw [List.length_take, List.length_drop]; omega
    · rw [List.length_take]; omega
end
end Go.Proofs.Ytkcmacglomdfcaa
