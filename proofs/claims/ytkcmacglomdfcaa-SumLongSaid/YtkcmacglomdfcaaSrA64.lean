/-
  THE ANSWER'S WORDS (words of 64 bits): right, and plain laws.
-/
import Derived.Test.YtkcmacglomdfcaaSmF64
namespace Go.Proofs.Ytkcmacglomdfcaa
open Go.RowKit

theorem right64_rot (x : BitVec 64) (n : Nat) (hn : n ≤ 64) : x >>> n + x <<< (64 - n) = rot64 x n := by
  unfold rot64
  apply BitVec.add_eq_or_of_and_eq_zero
  apply BitVec.eq_of_getLsbD_eq
  intro i hi
  rw [BitVec.getLsbD_and, BitVec.getLsbD_ushiftRight, BitVec.getLsbD_shiftLeft]
  by_cases h : i < 64 - n
  · simp [h]
  · rw [BitVec.getLsbD_of_ge x (n + i) (by omega)]
    simp
theorem right64_any (w : World) (x : BitVec 64) (n : Nat) (m : Int) (hm : m = (n : Int)) (hn : n ≤ 64) :
    Calls Try.prog 83 #[V64 x, .int .u64 m] w fun e w' => e = .returned (V64 (rot64 x n)) ∧ w' = w := by
  subst hm
  have h1 := fun t k => binOp_shr64 t k x n (n : Int) rfl hn
  have h2 := fun t k => binOp_shl64 t k x (64 - n) (64 - (n : Int)) (by omega) (by omega)
  have Hr := Lib.hid (right64_rot x n hn)
  go_enter Try.func83, Try.ntmps83
  go_wp2
  go_ret
  exact ⟨by rw [Hr.out]; rfl, rfl⟩
/-- The schedule, word by word. -/
theorem sched64_take (w : List (BitVec 64)) (n k : Nat) (hk : w.length ≤ k) (hn : k < w.length + n) : (sched64 w n)[k]? = some (nextW64 ((sched64 w n).take k)) := by
  induction n with
  | zero => omega
  | succ n ih =>
    have hl := sched64_len w n
    rw [sched64]
    by_cases h : k < w.length + n
    · rw [List.getElem?_append_left (by omega), List.take_append_of_le_length (by omega)]
      exact ih h
    · obtain rfl : k = w.length + n := by omega
      rw [List.getElem?_append_right (by omega), ← hl, List.take_left]
      simp
theorem sched64_low (w : List (BitVec 64)) (n k : Nat) (hk : k < w.length) : (sched64 w n)[k]? = w[k]? := by
  induction n with
  | zero => rfl
  | succ n ih =>
    have hl := sched64_len w n
    rw [sched64, List.getElem?_append_left (by omega), ih]
theorem be64_step (x : BitVec 64) (c : UInt8) : x * 256#64 + BitVec.ofNat 64 c.toNat = x <<< 8 ||| BitVec.ofNat 64 c.toNat := by
  have hs : x * 256#64 = x <<< 8 := by rw [BitVec.shiftLeft_eq_mul_twoPow]; rfl
  rw [hs]
  apply BitVec.add_eq_or_of_and_eq_zero
  apply BitVec.eq_of_getLsbD_eq
  intro i hi
  rw [BitVec.getLsbD_and, BitVec.getLsbD_shiftLeft, BitVec.getLsbD_ofNat]
  by_cases h : i < 8
  · simp [h]
  · have : c.toNat.testBit i = false := Nat.testBit_lt_two_pow (Nat.lt_of_lt_of_le c.toNat_lt (by show 2 ^ 8 ≤ 2 ^ i; exact Nat.pow_le_pow_right (by decide) (by omega)))
    simp [this]
end Go.Proofs.Ytkcmacglomdfcaa
