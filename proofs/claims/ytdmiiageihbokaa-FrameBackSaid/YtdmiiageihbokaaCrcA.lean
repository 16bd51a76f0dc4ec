/-
  THE WALK of crc.table: the array of sixteen words that it answers.
-/
import Derived.Test.YtdmiiageihbokaaProg
import Derived.Test.YtdmiiageihbokaaBase
import Derived.Test.YtdmiiageihbokaaCrcP
import Derived.WalkKit
import Derived.Deep.QuietTactic
import Derived.BigQuiet
import Derived.Lib.Hide
import Derived.Deep.MidRow
namespace Go.Proofs.Ytdmiiageihbokaa
open Go.RowKit

def W32 (x : BitVec 32) : Value := .int .u32 (x.toNat : Int)
def tabUp (k : Nat) : Array Value := ((List.range 16).map fun i => if i < k then W32 (tabAt i) else W32 0).toArray

theorem crc_and1 (x : BitVec 32) : bits .and .u32 (x.toNat : Int) 1 = if x.getLsbD 0 then 1 else 0 := by
  have h := u32_and_nat x.toNat 1 x.isLt (by omega)
  rw [show ((1 : Int)) = ((1 : Nat) : Int) from rfl, h, Nat.and_one_is_mod]
  simp [BitVec.getLsbD, Nat.testBit_zero]
  by_cases hx : x.toNat % 2 = 1 <;> simp [hx] <;> omega

theorem tabUp_size (k : Nat) : (tabUp k).size = 16 := by simp [tabUp]
theorem tabUp_at (k i : Nat) (h : i < 16) : (tabUp k)[i]? = some (if i < k then W32 (tabAt i) else W32 0) := by
  simp [tabUp, h]
theorem tabUp_set (k : Nat) : (tabUp k).setIfInBounds k (W32 (tabAt k)) = tabUp (k + 1) := by
  apply Array.ext_getElem?
  intro i
  rw [Array.getElem?_setIfInBounds, tabUp_size]
  by_cases hi : i < 16
  · by_cases e : k = i
    · subst e
      rw [if_pos rfl, if_pos hi, tabUp_at _ _ hi, if_pos (by omega)]
    · rw [if_neg e, tabUp_at _ _ hi, tabUp_at _ _ hi]
      by_cases h : i < k
      · rw [if_pos h, if_pos (by omega)]
      · rw [if_neg h, if_neg (by omega)]
  · by_cases e : k = i
    · rw [if_pos e, if_neg (by omega), Array.getElem?_eq_none (by rw [tabUp_size]; omega)]
    · rw [if_neg e, Array.getElem?_eq_none (by rw [tabUp_size]; omega), Array.getElem?_eq_none (by rw [tabUp_size]; omega)]
theorem crcT_odd (x : BitVec 32) (h : x.getLsbD 0 = true) : bits .xor .u32 ((x.toNat : Int) / 2) 3988292384 = ((crcT x).toNat : Int) := by
  have e : ((x.toNat : Int) / 2) = ((x.toNat / 2 : Nat) : Int) := by omega
  have hx := x.isLt
  rw [e, show (3988292384 : Int) = ((3988292384 : Nat) : Int) from rfl, u32_xor_nat _ _ (by omega) (by omega)]
  unfold crcT
  rw [if_pos h, BitVec.toNat_xor, BitVec.toNat_ushiftRight, Nat.shiftRight_eq_div_pow]
  rfl
theorem crcT_even (x : BitVec 32) (h : x.getLsbD 0 = false) : ((x.toNat : Int) / 2) = ((crcT x).toNat : Int) := by
  unfold crcT
  rw [h, if_neg (by simp), BitVec.toNat_ushiftRight, Nat.shiftRight_eq_div_pow]
  omega

theorem table_any (w : World) :
    Calls Try.prog 35 #[] w fun e w' => e = .returned (.agg (tabUp 16)) ∧ Below w.heap.size w w' := by
  go_enter Try.func35, Try.ntmps35
  go_wp2
  go_loopw [3] (fun i wr => ∃ k : Nat, k ≤ 16 ∧ i = .int .i64 k ∧ wr = w.alloc (.cells (tabUp k) 64)) (fun i _ => 16 - (intOf i).toNat)
  case atStart => exact ⟨0, by omega, rfl, rfl⟩
  case round =>
    obtain ⟨k, hk, rfl, rfl⟩ := hrel
    by_cases hlt : k < 16
    · have hck : (tabUp k)[k]? = some (W32 0) := by rw [tabUp_at _ _ hlt, if_neg (by omega)]
      go_wp2
      go_loop [2, 8] (fun x j => ∃ n : Nat, n ≤ 4 ∧ j = .int .i64 n ∧ x = W32 (crcTn n (BitVec.ofNat 32 k))) (fun _ j => 4 - (intOf j).toNat)
      case atStart => exact ⟨0, by omega, rfl, by simp [W32, crcTn, BitVec.toNat_ofNat]; omega⟩
      case round =>
        obtain ⟨n, hn, rfl, rfl⟩ := hrel
        unfold W32
        by_cases hn4 : n < 4
        · have HB := crc_and1 (crcTn n (BitVec.ofNat 32 k))
          cases hb : (crcTn n (BitVec.ofNat 32 k)).getLsbD 0
          · rw [hb] at HB
            simp at HB
            have hE := Lib.hid (crcT_even _ hb)
            clear hb
            go_wp2
            go_round
            case rel => exact ⟨n + 1, by omega, by go_num, by rw [hE.out]; rfl⟩
            case measure => simp [intOf]; omega
          · rw [hb] at HB
            simp at HB
            have hE := Lib.hid (crcT_odd _ hb)
            clear hb
            go_wp2
            go_round
            case rel => exact ⟨n + 1, by omega, by go_num, by rw [hE.out]; rfl⟩
            case measure => simp [intOf]; omega
        · obtain rfl : n = 4 := by omega
          go_wp2
          go_roundw
          case rel => exact ⟨k + 1, by omega, by go_num, by rw [← tabUp_set]; rfl⟩
          case measure => simp [intOf]; omega
    · obtain rfl : k = 16 := by omega
      go_wp2_with (first | (refine wpList_load_mid rfl _ _ rfl w.heap.size 0 rfl (tabUp 16).toList _ (rangeAt_new w _ _ _) Try.underlying64 rfl (by kernel_rfl) ?_) | (refine wpList_store_mid rfl _ _ _ rfl w.heap.size 0 (tabUp 16) rfl rfl (there_new w (tabUp 16) 64) (by kernel_rfl) (by kernel_rfl) ?_))
      refine bodyPost_ret (v := .agg (tabUp 16)) ?_ rfl ⟨rfl, ?_⟩
      · exact results_cell (s := 0) rfl _ _ _ w.heap.size 0 rfl (tabUp 16).toList _ (World.rangeAt_setCells_same _ _ _ _ (there_new w (tabUp 16) 64)) Try.underlying64 rfl (by kernel_rfl)
      · exact below_setCells (Nat.le_refl _) _ _ _ ((Below.refl _ _).alloc (Nat.le_refl _) _)
end Go.Proofs.Ytdmiiageihbokaa
