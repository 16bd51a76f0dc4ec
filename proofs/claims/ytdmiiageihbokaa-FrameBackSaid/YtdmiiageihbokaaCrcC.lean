/-
  THE WALKS of the document's answer for check sums: cachetref02.Of, and of Bytes, Take.
-/
import Derived.Test.YtdmiiageihbokaaCrcB
import Derived.Test.YtdmiiageihbokaaCrcP
namespace Go.Proofs.Ytdmiiageihbokaa
open Go.RowKit

theorem bit_of (d j : Nat) (hd : d < 2 ^ 8) : bits .and .u32 ((d : Int) / 2 ^ j % 4294967296) 1 = if d.testBit j then 1 else 0 := by
  have h : (d : Int) / 2 ^ j % 4294967296 = ((d / 2 ^ j : Nat) : Int) := by
    have h1 : ((d / 2 ^ j : Nat) : Int) = (d : Int) / 2 ^ j := by simp
    have h2 : d / 2 ^ j ≤ d := Nat.div_le_self _ _
    rw [← h1]
    clear h1
    generalize d / 2 ^ j = q at *
    omega
  have h2 : d / 2 ^ j ≤ d := Nat.div_le_self _ _
  rw [h, show (1 : Int) = ((1 : Nat) : Int) from rfl, u32_and_nat _ _ (by omega) (by omega), Nat.and_one_is_mod, Nat.testBit_eq_decide_div_mod_eq]
  have : d / 2 ^ j % 2 = 0 ∨ d / 2 ^ j % 2 = 1 := by omega
  rcases this with e | e <;> simp [e]
theorem half_ (x : BitVec 32) : ((x >>> 1).toNat : Int) = (x.toNat : Int) / 2 := by
  rw [BitVec.toNat_ushiftRight, Nat.shiftRight_eq_div_pow]
  omega
theorem half_xor (x : BitVec 32) : ((x >>> 1 ^^^ 0xedb88320#32).toNat : Int) = bits .xor .u32 ((x.toNat : Int) / 2) 3988292384 := by
  have hx := x.isLt
  rw [show ((x.toNat : Int) / 2) = ((x.toNat / 2 : Nat) : Int) from by omega, show (3988292384 : Int) = ((3988292384 : Nat) : Int) from rfl, u32_xor_nat _ _ (by omega) (by omega), BitVec.toNat_xor, BitVec.toNat_ushiftRight, Nat.shiftRight_eq_div_pow]
  rfl

set_option maxHeartbeats 400000 in
theorem refOf_any (w : World) (A : Option Addr) (n c : Nat) (bs : List UInt8) (hr : RB w A n bs) (hn : n ≤ 1000000) :
    Calls Try.prog 15 #[.slice A n c] w fun e w' => e = .returned (W32 (refOf bs)) ∧ w = w' := by
  go_enter Try.func15, Try.ntmps15
  go_wp2
  go_loop [3, 4] (fun x i => ∃ k : Nat, k ≤ 8 * n ∧ i = .int .i64 k ∧ x = W32 (refUp bs k)) (fun _ i => 8 * n - (intOf i).toNat)
  case atStart => exact ⟨0, Nat.zero_le _, rfl, by simp [W32, refUp]⟩
  case round =>
    obtain ⟨k, hk, rfl, rfl⟩ := hrel
    unfold W32
    by_cases hlt : k < 8 * n
    · have hq : k / 8 < n := by omega
      obtain ⟨b, o, d, rfl, hd, hc⟩ := hr.at_ hq
      have hd8 := d.toNat_lt
      obtain ⟨x, hx⟩ : ∃ x, x = refUp bs k := ⟨_, rfl⟩
      rw [← hx]
      have hb : bitAt bs k = d.toNat.testBit (k % 8) := by rw [bitAt, List.getD_eq_getElem?_getD, hd]; rfl
      have hs : refUp bs (k + 1) = refBit x (d.toNat.testBit (k % 8)) := by rw [refUp, ← hx, hb]
      clear hx hd hb
      have q1 := crc_and1 x
      have q2 := bit_of d.toNat (k % 8) hd8
      cases e1 : x.getLsbD 0 <;> cases e2 : d.toNat.testBit (k % 8)
      all_goals
        simp only [e1, e2, if_true, if_false, Bool.false_eq_true] at q1 q2
        simp only [refBit, e1, e2, if_true, if_false, Bool.false_eq_true, Bool.true_eq_false] at hs
        have Hs := Lib.hid hs
        clear hs e1 e2
        go_wp2
        go_round
        case rel => exact ⟨k + 1, by omega, by go_num, by rw [Hs.out]; first | rw [half_xor] | rw [half_]⟩
        case measure => simp [intOf]; omega
    · obtain rfl : k = 8 * n := by omega
      obtain ⟨x, hx⟩ : ∃ x, x = refUp bs (8 * n) := ⟨_, rfl⟩
      have hx32 := x.isLt
      have hr : W32 (refOf bs) = .int .u32 (4294967295 - (x.toNat : Int)) := by
        rw [W32, refOf, hr.len, ← hx, BitVec.toNat_not]
        congr 1
        omega
      rw [← hx]
      have Hr := Lib.hid hr
      clear hr hx
      go_wp2
      go_ret
      exact ⟨by rw [Hr.out]; rfl, rfl⟩
theorem refOf_sb (w : World) (v : Value) (bs : List UInt8) (hr : SB w v bs) (hn : bs.length ≤ 1000000) :
    Calls Try.prog 15 #[v] w fun e w' => e = .returned (W32 (crcSum bs)) ∧ w = w' := by
  obtain ⟨A, n, c, rfl, h1, h2, h3⟩ := hr
  rw [← refOf_eq]
  exact refOf_any w A n c bs h3 (by rw [← h3.len]; exact hn)
end Go.Proofs.Ytdmiiageihbokaa
