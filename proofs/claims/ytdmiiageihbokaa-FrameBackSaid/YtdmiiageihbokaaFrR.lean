/-
  RECORDS IN A ROW OF BYTES, plainly: the next record, as the document finds it; rows of pairs.
-/
import Derived.Test.YtdmiiageihbokaaFrQ
import Derived.Test.YtdmiiageihbokaaNum
namespace Go.Proofs.Ytdmiiageihbokaa
open Go.RowKit

theorem firstOf_short {row : List UInt8} (h : row.length < 8) : firstOf row = none := by
  cases hf : firstOf row with
  | none => rfl
  | some p => have := (firstOf_len hf).1; omega
theorem firstOf_large (b0 b1 b2 b3 c0 c1 c2 c3 : UInt8) (rest : List UInt8) (h : 65536 < (word4 b0 b1 b2 b3).toNat ∨ rest.length < (word4 b0 b1 b2 b3).toNat) : firstOf (b0 :: b1 :: b2 :: b3 :: c0 :: c1 :: c2 :: c3 :: rest) = none := by
  rw [firstOf_cons, if_neg (by omega)]
theorem firstOf_same (b0 b1 b2 b3 c0 c1 c2 c3 : UInt8) (rest : List UInt8) (n : Nat) (hn : (word4 b0 b1 b2 b3).toNat = n) (h1 : n ≤ 65536) (h2 : n ≤ rest.length) :
    firstOf (b0 :: b1 :: b2 :: b3 :: c0 :: c1 :: c2 :: c3 :: rest) = if recOf (rest.take n) = (b0 :: b1 :: b2 :: b3 :: c0 :: c1 :: c2 :: c3 :: rest).take (8 + n) then some (rest.take n) else none := by
  by_cases e : recOf (rest.take n) = (b0 :: b1 :: b2 :: b3 :: c0 :: c1 :: c2 :: c3 :: rest).take (8 + n)
  · rw [if_pos e]
    conv => lhs; rw [← List.take_append_drop (8 + n) (b0 :: b1 :: b2 :: b3 :: c0 :: c1 :: c2 :: c3 :: rest), ← e]
    exact firstOf_rec _ _ (by simp; omega)
  · rw [if_neg e, firstOf_cons, if_pos (by omega), hn]
    by_cases hs : word4 c0 c1 c2 c3 = crcSum ([b0, b1, b2, b3] ++ rest.take n)
    · refine absurd ?_ e
      have h := recOf_of b0 b1 b2 b3 c0 c1 c2 c3 rest n hn h2 hs
      rw [h]
      exact (List.take_left' (by rw [recOf_len]; simp; omega)).symm
    · rw [if_neg hs]
theorem word4_int (b0 b1 b2 b3 : UInt8) : 256 * (256 * (256 * (256 * (0 : Int) + (b3.toNat : Int)) + (b2.toNat : Int)) + (b1.toNat : Int)) + (b0.toNat : Int) = ((word4 b0 b1 b2 b3).toNat : Int) := by
  rw [word4_toNat]
  omega
theorem split8 {l : List UInt8} (h : 8 ≤ l.length) : ∃ b0 b1 b2 b3 c0 c1 c2 c3 rest, l = b0 :: b1 :: b2 :: b3 :: c0 :: c1 :: c2 :: c3 :: rest := by
  match l, h with
  | b0 :: b1 :: b2 :: b3 :: c0 :: c1 :: c2 :: c3 :: rest, _ => exact ⟨b0, b1, b2, b3, c0, c1, c2, c3, rest, rfl⟩
  | [], h => simp at h
  | [_], h => simp at h
  | [_, _], h => simp at h
  | [_, _, _], h => simp at h
  | [_, _, _, _], h => simp at h
  | [_, _, _, _, _], h => simp at h
  | [_, _, _, _, _, _], h => simp at h
  | [_, _, _, _, _, _, _], h => simp at h

/-! ### Rows of records of two cells -/
def recCells (zs : List (Nat × Value)) : List Value := zs.flatMap fun z => [.int .i64 (z.1 : Int), z.2]
theorem recCells_snoc (zs : List (Nat × Value)) (z : Nat × Value) : recCells (zs ++ [z]) = recCells zs ++ [.int .i64 (z.1 : Int), z.2] := by simp [recCells]
theorem recCells_len (zs : List (Nat × Value)) : (recCells zs).length = zs.length * 2 := by
  induction zs with
  | nil => rfl
  | cons z zs ih => simp only [recCells, List.flatMap_cons, List.length_append, List.length_cons, List.length_nil] at ih ⊢; omega
theorem recCells_at : ∀ (zs : List (Nat × Value)) (k : Nat) (z : Nat × Value), zs[k]? = some z → (recCells zs)[k * 2]? = some (.int .i64 (z.1 : Int)) ∧ (recCells zs)[k * 2 + 1]? = some z.2 := by
  intro zs
  induction zs with
  | nil => intro k z h; simp at h
  | cons y zs ih =>
    intro k z h
    cases k with
    | zero => simp at h; subst h; exact ⟨rfl, rfl⟩
    | succ k =>
      simp only [List.getElem?_cons_succ] at h
      obtain ⟨h1, h2⟩ := ih k z h
      have e : recCells (y :: zs) = [.int .i64 (y.1 : Int), y.2] ++ recCells zs := by simp [recCells]
      rw [e]
      constructor
      · rw [List.getElem?_append_right (by simp; omega)]
        simpa [show (k + 1) * 2 - 2 = k * 2 by omega] using h1
      · rw [List.getElem?_append_right (by simp; omega)]
        simpa [show (k + 1) * 2 + 1 - 2 = k * 2 + 1 by omega] using h2
/-- Rows of unlike cells lie in unlike blocks. -/
theorem own_unlike {w : World} {B B' : Nat} {e e' : TypeId} {s s' : Nat} {u v : Value} {n m : Nat} {xs ys : List Value} (hu : w.ownsRow B e s u n xs) (hv : w.ownsRow B' e' s' v m ys) (he : e ≠ e') {g : Nat} (hg : u.ownBlock = some g) : v.ownBlock ≠ some g := by
  intro hg'
  rcases hu.2 with ⟨rfl, _⟩ | ⟨g1, cap1, cur1, rfl, _, hh1, _⟩
  · simp [Value.ownBlock] at hg
  · rcases hv.2 with ⟨rfl, _⟩ | ⟨g2, cap2, cur2, rfl, _, hh2, _⟩
    · simp [Value.ownBlock] at hg'
    · simp [Value.ownBlock] at hg hg'
      subst hg hg'
      rw [hh1] at hh2
      simp only [Option.some.injEq, Obj.cells.injEq] at hh2
      exact he hh2.2.1
theorem own_kept_unlike {w w' : World} {B B' : Nat} {e e' : TypeId} {s s' : Nat} {u v : Value} {n m : Nat} {xs ys : List Value} (hu : w.ownsRow B e s u n xs) (hv : w.ownsRow B' e' s' v m ys) (he : e ≠ e') (hg : w.grownBy w' v.ownBlock) : w'.ownsRow B e s u n xs := by
  refine hu.kept hg ?_
  rcases hz' : u.ownBlock with _ | g
  · exact .inl rfl
  · exact .inr fun e => own_unlike hu hv he hz' e.symm
/-- What a row of found records says: where each begins, and a row of the call's own with its payload. -/
def RecRow (w : World) (B : Nat) (fr : List (Nat × List UInt8)) (zs : List (Nat × Value)) : Prop :=
  ∀ (i : Nat) z, zs[i]? = some z → ∃ x, fr[i]? = some x ∧ z.1 = x.1 ∧ w.ownsRow B 5 1 z.2 x.2.length (x.2.map B8)
theorem RecRow.snoc {w : World} {B : Nat} {fr : List (Nat × List UInt8)} {zs : List (Nat × Value)} (h : RecRow w B fr zs) {x : Nat × List UInt8} (hx : fr[zs.length]? = some x) {u : Value} (hu : w.ownsRow B 5 1 u x.2.length (x.2.map B8)) : RecRow w B fr (zs ++ [(x.1, u)]) := by
  intro i z hz
  by_cases hi : i < zs.length
  · rw [List.getElem?_append_left hi] at hz
    exact h i z hz
  · have h0 : i - zs.length = 0 := by
      have := (List.getElem?_eq_some_iff.1 hz).1
      simp at this
      omega
    rw [List.getElem?_append_right (by omega), h0] at hz
    cases hz
    have : i = zs.length := by omega
    subst this
    exact ⟨x, hx, rfl, hu⟩
theorem RecRow.below {w w' : World} {B : Nat} {fr : List (Nat × List UInt8)} {zs : List (Nat × Value)} (h : RecRow w B fr zs) (hb : Below w.heap.size w w') : RecRow w' B fr zs := fun i z hz => by
  obtain ⟨x, h1, h2, h3⟩ := h i z hz
  exact ⟨x, h1, h2, ownsRow_below h3 hb⟩
theorem RecRow.kept {w w' : World} {B : Nat} {fr : List (Nat × List UInt8)} {zs : List (Nat × Value)} (h : RecRow w B fr zs) {B' : Nat} {e : TypeId} {s : Nat} {v : Value} {n : Nat} {ys : List Value} (hv : w.ownsRow B' e s v n ys) (he : 5 ≠ e) (hg : w.grownBy w' v.ownBlock) : RecRow w' B fr zs := fun i z hz => by
  obtain ⟨x, h1, h2, h3⟩ := h i z hz
  exact ⟨x, h1, h2, own_kept_unlike h3 hv he hg⟩
end Go.Proofs.Ytdmiiageihbokaa
