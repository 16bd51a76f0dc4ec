/-
  THE WALK of the law CrcFinds.
-/
import Derived.Test.YtdmiiageihbokaaCrcE
import Derived.Test.YtdmiiageihbokaaCrcQ
import Derived.Test.YtdmiiageihbokaaOpen
namespace Go.Proofs.Ytdmiiageihbokaa
open Go.RowKit Go.ChangeShapes Go.WideShapes Go.ChangeAt

theorem low_value (d : UInt8) (y : BitVec 32) (s : Nat) : bits .xor .u8 (d.toNat : Int) ((y.toNat : Int) / 2 ^ s % 256) = ((d ^^^ lowB (y >>> s)).toNat : Int) := by
  have h1 : (y.toNat : Int) / 2 ^ s % 256 = (((lowB (y >>> s)).toNat : Nat) : Int) := by
    unfold lowB
    rw [UInt8.toNat_ofNat', BitVec.toNat_ushiftRight, Nat.shiftRight_eq_div_pow]
    have h1 : ((y.toNat / 2 ^ s : Nat) : Int) = (y.toNat : Int) / 2 ^ s := by simp
    rw [← h1]
    omega
  rw [h1, u8_xor_nat _ _ d.toNat_lt (lowB (y >>> s)).toNat_lt, UInt8.toNat_xor]
theorem crcFinds_test (w : World) (A : Option Addr) (n c : Nat) (bs : List UInt8) (hA : RB w A n bs) (hc : n ≤ c) (hcm : c ≤ maxLen) (h1 : 4 ≤ n) (h2 : n ≤ 5000) (a : Int) (y : BitVec 32) (hy : y ≠ 0#32) :
    Calls Try.prog 5 #[.slice A n c, .int .i64 a, .int .u32 (y.toNat : Int)] w fun e w' => e = .returned (.bool true) ∧ Below w.heap.size w w' := by
  have hy0 : ((y.toNat : Int) == 0) = false := by
    rw [beq_eq_false_iff_ne]
    intro e
    exact hy (BitVec.eq_of_toNat_eq (by simpa using e))
  obtain ⟨k, hk, hk4⟩ : ∃ k : Nat, (IntKind.u64.wrap a).tmod ((n : Int) - 3) = (k : Int) ∧ k + 4 ≤ n := by
    have h0 : 0 ≤ IntKind.u64.wrap a := wrap_u64_nonneg a
    rw [Int.tmod_eq_emod_of_nonneg h0]
    have h3 := Int.emod_nonneg (IntKind.u64.wrap a) (b := (n : Int) - 3) (by omega)
    have h4 := Int.emod_lt_of_pos (IntKind.u64.wrap a) (b := (n : Int) - 3) (by omega)
    exact ⟨(IntKind.u64.wrap a % ((n : Int) - 3)).toNat, by omega, by omega⟩
  go_enter Try.func5, Try.ntmps5
  go_wp2_with (first | (go_at_call 13; refine (alive_any _).mono ?_; rintro e w1 ⟨rfl, hb1⟩; have hA1 := hA.below hb1) | (at_builtin; refine wpList_append_row rfl (.tmp 32) (.tmp 33) 22 rfl w1 ((Below.refl _ _).alloc (Nat.le_refl _) _) Try.underlying22 info_u8 rfl (by decide) (.slice (some ⟨w1.heap.size, 0, none⟩) 0 0) 0 [] rfl (ownsRow_empty w1 _ _ (Nat.le_refl _)) A n c (bs.map B8) rfl ((hA1.below ((Below.refl _ _).alloc (Nat.le_refl _) _)).rc) (by rw [List.length_map, hA1.len]; omega) (b8_oneCell bs) (by unfold maxLen; omega) (by omega) ?_; intro v2 w2 hown hb2; rw [List.nil_append, Nat.zero_add] at hown))
  obtain ⟨g, cap, hv2, hgb, hglt⟩ := hown.form (by omega)
  subst hv2
  have hlen : bs.length = n := hA1.len
  have Hlen := Lib.hid hlen
  have Hk := Lib.hid hk
  clear hlen hk
  go_loopw [35] (fun i wr => ∃ j : Nat, j ≤ 4 ∧ i = .int .i64 j ∧ wr.ownsRow w1.heap.size 5 1 (.slice (some ⟨g, 0, none⟩) n cap) n ((spUp bs k y j).map B8) ∧ Below w1.heap.size w1 wr) (fun i _ => 4 - (intOf i).toNat)
  case atStart => exact ⟨0, by omega, rfl, hown, hb2⟩
  case round =>
    obtain ⟨j, hj, rfl, hownj, hbj⟩ := hrel
    by_cases hlt : j < 4
    · obtain ⟨d, hd⟩ : ∃ d, (spUp bs k y j)[k + j]? = some d := ⟨_, List.getElem?_eq_getElem (by rw [spUp_length, Hlen.out]; omega)⟩
      have hcell : wr.cell? ⟨g, k + j, none⟩ = some (.int .u8 (d.toNat : Int)) := by
        rw [hownj.cellAt (k + j) (by omega), List.getElem?_map, hd]; rfl
      have hfr := hownj.frozenAt (k + j)
      have hd8 := d.toNat_lt
      have hy32 := y.isLt
      have hv := low_value d y (8 * j)
      have hst := hownj.stored (k + j) (.int .u8 ((d ^^^ lowB (y >>> (8 * j))).toNat : Int))
      have hset : ((spUp bs k y j).map B8).set (k + j) (.int .u8 ((d ^^^ lowB (y >>> (8 * j))).toNat : Int)) = (spUp bs k y (j + 1)).map B8 := by
        rw [spUp, List.getD_eq_getElem?_getD, hd, List.map_set]; rfl
      rw [hset] at hst
      obtain ⟨ho, hgr⟩ := hst
      have hb' := hbj.grown hgr hbj.size (by intro q hq; cases hq; exact hgb)
      have Hd := Lib.hid hd
      have Ho := Lib.hid ho
      have Hb := Lib.hid hb'
      have Hv := Lib.hid hv
      clear hset hd hgr hownj hA hA1 hown hb2 ho hb' hv
      go_wp2
      go_roundw
      case rel => exact ⟨j + 1, by omega, by go_num, by rw [Hv.out]; exact Ho.out, by rw [Hv.out]; exact Hb.out⟩
      case measure => simp [intOf]; omega
    · obtain rfl : j = 4 := by omega
      have hb01 : Below w.heap.size w wr := hb1.trans (hbj.mono hb1.size)
      have hS : SB wr (.slice A n c) bs := ⟨A, n, c, rfl, hc, hcm, hA1.below hbj⟩
      have hC : SB wr (.slice (some ⟨g, 0, none⟩) n cap) (spUp bs k y 4) := SB.of_own hownj
      clear hownj hA hA1 hown hb2
      go_wp2_with fail
      have hbA : Below wr.heap.size wr (wr.alloc (.cells #[.slice (some ⟨g, 0, none⟩) n cap] 22)) := (Below.refl _ _).alloc (Nat.le_refl _) _
      refine (of_any _ _ [spUp bs k y 4] (SBs.one (hC.below hbA) (Nat.le_refl _) (by decide) (RV.of_rangeAt (rangeAt_at _ _ _ _ _ rfl) rfl))).mono ?_
      rintro e w3 ⟨rfl, hb3⟩
      have hb13 : Below wr.heap.size wr w3 := hbA.trans (hb3.mono (by simp))
      rw [show [spUp bs k y 4].flatten = spUp bs k y 4 by simp]
      have hS3 := hS.below hb13
      clear hbA hb3
      unfold W32
      go_wp2_with fail
      have hbA : Below w3.heap.size w3 (w3.alloc (.cells #[.slice A n c] 22)) := (Below.refl _ _).alloc (Nat.le_refl _) _
      refine (of_any _ _ [bs] (SBs.one (hS3.below hbA) (Nat.le_refl _) (by decide) (RV.of_rangeAt (rangeAt_at _ _ _ _ _ rfl) rfl))).mono ?_
      rintro e w4 ⟨rfl, hb4⟩
      rw [show [bs].flatten = bs by simp]
      have hb34 : Below w3.heap.size w3 w4 := hbA.trans (hb4.mono (by simp))
      have hne := crc_finds bs k y hy (by rw [Hlen.out]; omega)
      rw [← spUp_four bs k y (by rw [Hlen.out]; omega)] at hne
      obtain ⟨p, hp⟩ : ∃ p, p = crcSum (spUp bs k y 4) := ⟨_, rfl⟩
      obtain ⟨q, hq⟩ : ∃ q, q = crcSum bs := ⟨_, rfl⟩
      rw [← hp, ← hq] at hne ⊢
      have hneq : ((p.toNat : Int) != (q.toNat : Int)) = true := by
        rw [bne_iff_ne]
        intro e
        exact hne (BitVec.eq_of_toNat_eq (by omega))
      clear hp hq hne hbA hb4
      unfold W32
      go_wp2_with fail
      go_ret
      exact ⟨rfl, (hb01.trans (hb13.mono hb01.size)).trans (hb34.mono (Nat.le_trans hb01.size hb13.size))⟩
theorem crcFinds_out (w : World) (A : Option Addr) (n c : Nat) (a : Int) (y : BitVec 32) (hn : n ≤ maxLen) (h : n < 4 ∨ 5000 < n ∨ y = 0#32) :
    Calls Try.prog 5 #[.slice A n c, .int .i64 a, .int .u32 (y.toNat : Int)] w fun e w' => e = .returned (.bool true) ∧ Below w.heap.size w w' := by
  unfold maxLen at hn
  by_cases h1 : n < 4
  · go_enter Try.func5, Try.ntmps5
    go_wp2_with (go_at_call 13; refine (alive_any _).mono ?_; rintro e w1 ⟨rfl, hb1⟩)
    all_goals go_ret; exact ⟨rfl, hb1⟩
  · by_cases h2 : 5000 < n
    · go_enter Try.func5, Try.ntmps5
      go_wp2_with (go_at_call 13; refine (alive_any _).mono ?_; rintro e w1 ⟨rfl, hb1⟩)
      all_goals go_ret; exact ⟨rfl, hb1⟩
    · have hy : y = 0#32 := (h.resolve_left h1).resolve_left h2
      subst hy
      go_enter Try.func5, Try.ntmps5
      go_wp2_with (go_at_call 13; refine (alive_any _).mono ?_; rintro e w1 ⟨rfl, hb1⟩)
      all_goals go_ret; exact ⟨rfl, hb1⟩
theorem crcFinds_law (w : World) (v0 : Value) (b0 : List UInt8) (h0 : SB w v0 b0) (a : Int) (ha : (Lit.int .i64 a).wf = true) (b : Int) (hb : (Lit.int .u32 b).wf = true) :
    Calls Try.prog 5 #[v0, .int .i64 a, .int .u32 b] w fun e w' => e = .returned (.bool true) ∧ Below w.heap.size w w' := by
  obtain ⟨A, n, c, rfl, hc, hcm, hA⟩ := h0
  obtain ⟨y, rfl⟩ : ∃ y : BitVec 32, b = (y.toNat : Int) := by
    have := bounds_u32 hb
    exact ⟨BitVec.ofNat 32 b.toNat, by rw [BitVec.toNat_ofNat]; omega⟩
  by_cases h : n < 4 ∨ 5000 < n ∨ y = 0#32
  · exact crcFinds_out w A n c a y (by omega) h
  · exact crcFinds_test w A n c b0 hA hc hcm (by omega) (by omega) a y (fun e => h (.inr (.inr e)))
end Go.Proofs.Ytdmiiageihbokaa
