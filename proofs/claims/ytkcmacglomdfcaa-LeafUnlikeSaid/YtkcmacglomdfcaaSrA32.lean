/-
  THE ANSWER'S WORDS (words of 32 bits): right, and plain laws.
-/
import Derived.Test.YtkcmacglomdfcaaSmF32
namespace Go.Proofs.Ytkcmacglomdfcaa
open Go.RowKit

theorem right32_rot (x : BitVec 32) (n : Nat) (hn : n ≤ 32) : x >>> n + x <<< (32 - n) = rot32 x n := by
  unfold rot32
  apply BitVec.add_eq_or_of_and_eq_zero
  apply BitVec.eq_of_getLsbD_eq
  intro i hi
  rw [BitVec.getLsbD_and, BitVec.getLsbD_ushiftRight, BitVec.getLsbD_shiftLeft]
  by_cases h : i < 32 - n
  · simp [h]
  · rw [BitVec.getLsbD_of_ge x (n + i) (by omega)]
    simp
theorem right32_any (w : World) (x : BitVec 32) (n : Nat) (m : Int) (hm : m = (n : Int)) (hn : n ≤ 32) :
    Calls Try.prog 81 #[V32 x, .int .u64 m] w fun e w' => e = .returned (V32 (rot32 x n)) ∧ w' = w := by
  subst hm
  have h1 := fun t k => binOp_shr32 t k x n (n : Int) rfl hn
  have h2 := fun t k => binOp_shl32 t k x (32 - n) (32 - (n : Int)) (by omega) (by omega)
  have Hr := Lib.hid (right32_rot x n hn)
  go_enter Try.func81, Try.ntmps81
  go_wp2
  go_ret
  exact ⟨by rw [Hr.out]; rfl, rfl⟩
/-- The schedule, word by word. -/
theorem sched32_take (w : List (BitVec 32)) (n k : Nat) (hk : w.length ≤ k) (hn : k < w.length + n) : (sched32 w n)[k]? = some (nextW32 ((sched32 w n).take k)) := by
  induction n with
  | zero => omega
  | succ n ih =>
    have hl := sched32_len w n
    rw [sched32]
    by_cases h : k < w.length + n
    · rw [List.getElem?_append_left (by omega), List.take_append_of_le_length (by omega)]
      exact ih h
    · obtain rfl : k = w.length + n := by omega
      rw [List.getElem?_append_right (by omega), ← hl, List.take_left]
      simp
theorem sched32_low (w : List (BitVec 32)) (n k : Nat) (hk : k < w.length) : (sched32 w n)[k]? = w[k]? := by
  induction n with
  | zero => rfl
  | succ n ih =>
    have hl := sched32_len w n
    rw [sched32, List.getElem?_append_left (by omega), ih]
theorem be32_step (x : BitVec 32) (c : UInt8) : x * 256#32 + BitVec.ofNat 32 c.toNat = x <<< 8 ||| BitVec.ofNat 32 c.toNat := by
  have hs : x * 256#32 = x <<< 8 := by rw [BitVec.shiftLeft_eq_mul_twoPow]; rfl
  rw [hs]
  apply BitVec.add_eq_or_of_and_eq_zero
  apply BitVec.eq_of_getLsbD_eq
  intro i hi
  rw [BitVec.getLsbD_and, BitVec.getLsbD_shiftLeft, BitVec.getLsbD_ofNat]
  by_cases h : i < 8
  · simp [h]
  · have : c.toNat.testBit i = false := Nat.testBit_lt_two_pow (Nat.lt_of_lt_of_le c.toNat_lt (by show 2 ^ 8 ≤ 2 ^ i; exact Nat.pow_le_pow_right (by decide) (by omega)))
    simp [this]
end Go.Proofs.Ytkcmacglomdfcaa
