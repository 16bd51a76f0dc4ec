/-
  RECORDS IN A ROW OF BYTES, plainly.
-/
import Derived.Test.YtdmiiageihbokaaCrcQ
namespace Go.Proofs.Ytdmiiageihbokaa

/-- The payload of the record that a row begins with. -/
def firstOf : List UInt8 → Option (List UInt8)
  | b0 :: b1 :: b2 :: b3 :: c0 :: c1 :: c2 :: c3 :: rest =>
    if (word4 b0 b1 b2 b3).toNat ≤ 65536 ∧ (word4 b0 b1 b2 b3).toNat ≤ rest.length then
      if word4 c0 c1 c2 c3 = crcSum ([b0, b1, b2, b3] ++ rest.take (word4 b0 b1 b2 b3).toNat) then some (rest.take (word4 b0 b1 b2 b3).toNat) else none
    else none
  | _ => none
theorem firstOf_len {row p : List UInt8} (h : firstOf row = some p) : 8 + p.length ≤ row.length ∧ p.length ≤ 65536 := by
  unfold firstOf at h
  split at h
  · rename_i b0 b1 b2 b3 c0 c1 c2 c3 rest
    split at h
    · rename_i hc
      split at h
      · simp only [Option.some.injEq] at h
        subst h
        simp
        omega
      · cases h
    · cases h
  · cases h
/-- All records of a row: where each begins, and its payload. -/
def framesF : Nat → Nat → List UInt8 → List (Nat × List UInt8)
  | 0, _, _ => []
  | f + 1, at_, row => match firstOf row with
    | none => []
    | some p => (at_, p) :: framesF f (at_ + (8 + p.length)) (row.drop (8 + p.length))
def frames (row : List UInt8) : List (Nat × List UInt8) := framesF row.length 0 row
theorem framesF_fuel : ∀ (f g at_ : Nat) (row : List UInt8), row.length ≤ f → row.length ≤ g → framesF f at_ row = framesF g at_ row := by
  intro f
  induction f with
  | zero =>
    intro g at_ row hf _
    have : row = [] := List.eq_nil_of_length_eq_zero (by omega)
    subst this
    cases g <;> rfl
  | succ f ih =>
    intro g at_ row hf hg
    cases g with
    | zero =>
      have : row = [] := List.eq_nil_of_length_eq_zero (by omega)
      subst this
      rfl
    | succ g =>
      rw [framesF, framesF]
      cases h : firstOf row with
      | none => rfl
      | some p =>
        have hl := (firstOf_len h).1
        simp only
        rw [ih g _ _ (by simp; omega) (by simp; omega)]
/-- How far the first k records reach. -/
def offs (fr : List (Nat × List UInt8)) (k : Nat) : Nat := ((fr.take k).map fun x => 8 + x.2.length).sum
theorem offs_cons (x : Nat × List UInt8) (fr : List (Nat × List UInt8)) (k : Nat) : offs (x :: fr) (k + 1) = 8 + x.2.length + offs fr k := by simp [offs]
theorem offs_zero (fr : List (Nat × List UInt8)) : offs fr 0 = 0 := by simp [offs]
theorem offs_succ {fr : List (Nat × List UInt8)} {k : Nat} {x : Nat × List UInt8} (h : fr[k]? = some x) : offs fr (k + 1) = offs fr k + (8 + x.2.length) := by
  unfold offs
  rw [List.take_add_one, h]
  simp
theorem framesF_spec : ∀ (f a : Nat) (row : List UInt8), row.length ≤ f →
    (∀ (k : Nat) x, (framesF f a row)[k]? = some x → x.1 = a + offs (framesF f a row) k ∧ firstOf (row.drop (offs (framesF f a row) k)) = some x.2) ∧
    firstOf (row.drop (offs (framesF f a row) (framesF f a row).length)) = none ∧ ∀ k, offs (framesF f a row) k ≤ row.length := by
  intro f
  induction f with
  | zero =>
    intro a row hf
    have : row = [] := List.eq_nil_of_length_eq_zero (by omega)
    subst this
    exact ⟨fun k x h => by simp [framesF] at h, rfl, fun k => by simp [framesF, offs]⟩
  | succ f ih =>
    intro a row hf
    rw [framesF]
    cases h : firstOf row with
    | none => exact ⟨fun k x hx => by simp at hx, by simpa [offs] using h, fun k => by simp [offs]⟩
    | some p =>
      have hl := (firstOf_len h).1
      obtain ⟨h1, h2, h3⟩ := ih (a + (8 + p.length)) (row.drop (8 + p.length)) (by simp; omega)
      simp only
      refine ⟨fun k x hx => ?_, ?_, fun k => ?_⟩
      · cases k with
        | zero =>
          simp only [List.getElem?_cons_zero, Option.some.injEq] at hx
          subst hx
          rw [offs_zero]
          exact ⟨rfl, h⟩
        | succ k =>
          simp only [List.getElem?_cons_succ] at hx
          obtain ⟨e1, e2⟩ := h1 k x hx
          rw [offs_cons]
          refine ⟨by rw [e1]; simp only; omega, ?_⟩
          rw [List.drop_drop] at e2
          exact e2
      · rw [List.length_cons, offs_cons]
        rw [List.drop_drop] at h2
        exact h2
      · cases k with
        | zero => rw [offs_zero]; omega
        | succ k =>
          rw [offs_cons]
          have := h3 k
          simp only [List.length_drop] at this
          simp only
          omega
theorem frames_spec (row : List UInt8) : (∀ (k : Nat) x, (frames row)[k]? = some x → x.1 = offs (frames row) k ∧ firstOf (row.drop (offs (frames row) k)) = some x.2) ∧
    firstOf (row.drop (offs (frames row) (frames row).length)) = none ∧ ∀ k, offs (frames row) k ≤ row.length := by
  obtain ⟨h1, h2, h3⟩ := framesF_spec row.length 0 row (Nat.le_refl _)
  exact ⟨fun k x hx => ⟨by have := (h1 k x hx).1; rw [this, Nat.zero_add]; rfl, (h1 k x hx).2⟩, h2, h3⟩
/-- How far a row is whole. -/
def wholeOf (row : List UInt8) : Nat := offs (frames row) (frames row).length
theorem offs_ge (fr : List (Nat × List UInt8)) : ∀ k, k ≤ fr.length → 8 * k ≤ offs fr k := by
  intro k
  induction k with
  | zero => intro _; omega
  | succ k ih =>
    intro hk
    have := ih (by omega)
    rw [offs_succ (List.getElem?_eq_getElem (show k < fr.length by omega))]
    omega
theorem frames_len (row : List UInt8) : 8 * (frames row).length ≤ row.length := Nat.le_trans (offs_ge _ _ (Nat.le_refl _)) ((frames_spec row).2.2 _)
/-- A payload's record. -/
def lenW (p : List UInt8) : BitVec 32 := BitVec.ofNat 32 p.length
def recOf (p : List UInt8) : List UInt8 := wordBytes (lenW p) ++ wordBytes (crcSum (wordBytes (lenW p) ++ p)) ++ p
theorem recOf_len (p : List UInt8) : (recOf p).length = 8 + p.length := by simp [recOf, wordBytes]; omega
theorem firstOf_rec (p rest : List UInt8) (hp : p.length ≤ 65536) : firstOf (recOf p ++ rest) = some p := by
  have hw : (word4 (lowB (lenW p)) (lowB (lenW p >>> 8)) (lowB (lenW p >>> 16)) (lowB (lenW p >>> 24))).toNat = p.length := by
    rw [word4_wordBytes, lenW, BitVec.toNat_ofNat]
    omega
  show (if (word4 (lowB (lenW p)) (lowB (lenW p >>> 8)) (lowB (lenW p >>> 16)) (lowB (lenW p >>> 24))).toNat ≤ 65536 ∧ (word4 (lowB (lenW p)) (lowB (lenW p >>> 8)) (lowB (lenW p >>> 16)) (lowB (lenW p >>> 24))).toNat ≤ (p ++ rest).length then
    if word4 _ _ _ _ = crcSum ([lowB (lenW p), lowB (lenW p >>> 8), lowB (lenW p >>> 16), lowB (lenW p >>> 24)] ++ (p ++ rest).take (word4 (lowB (lenW p)) (lowB (lenW p >>> 8)) (lowB (lenW p >>> 16)) (lowB (lenW p >>> 24))).toNat) then some ((p ++ rest).take (word4 (lowB (lenW p)) (lowB (lenW p >>> 8)) (lowB (lenW p >>> 16)) (lowB (lenW p >>> 24))).toNat) else none else none) = _
  rw [hw, if_pos ⟨hp, by simp⟩, List.take_left, word4_wordBytes]
  exact if_pos rfl
end Go.Proofs.Ytdmiiageihbokaa
