/-
  THE WALK of the law CrcBytes.
-/
import Derived.Test.YtdmiiageihbokaaCrcH
import Derived.Test.YtdmiiageihbokaaOpen
namespace Go.Proofs.Ytdmiiageihbokaa
open Go.RowKit Go.ChangeShapes Go.WideShapes Go.ChangeAt

theorem crcBytes_big (w : World) (s : BitVec 32) (A : Option Addr) (n c : Nat) (hn : 1000 < n) (hm : n ≤ maxLen) :
    Calls Try.prog 7 #[W32 s, .slice A n c] w fun e w' => e = .returned (.bool true) ∧ Below w.heap.size w w' := by
  unfold maxLen at hm
  go_enter Try.func7, Try.ntmps7
  go_wp2_with fail
  refine (bytes_any w s).mono ?_
  rintro e w1 ⟨v1, rfl, hS1, hb1⟩
  go_wp2_with fail
  refine (alive_any w1).mono ?_
  rintro e w2 ⟨rfl, hb2⟩
  go_wp2_with fail
  refine (alive_any w2).mono ?_
  rintro e w3 ⟨rfl, hb3⟩
  go_wp2_with fail
  go_ret
  exact ⟨rfl, (hb1.trans (hb2.mono hb1.size)).trans (hb3.mono (Nat.le_trans hb1.size hb2.size))⟩

theorem takeOf_word (s : BitVec 32) : takeOf (wordBytes s) = (s, true) := by
  show (word4 _ _ _ _, true) = _
  rw [word4_wordBytes]
theorem crcBytes_small (w : World) (s : BitVec 32) (A : Option Addr) (n c : Nat) (bs : List UInt8) (hr : SB w (.slice A n c) bs) (hl : bs.length = n) (hn : n ≤ 1000) :
    Calls Try.prog 7 #[W32 s, .slice A n c] w fun e w' => e = .returned (.bool true) ∧ Below w.heap.size w w' := by
  have Hl := Lib.hid hl
  clear hl
  go_enter Try.func7, Try.ntmps7
  go_wp2_with fail
  refine (bytes_any w s).mono ?_
  rintro e w1 ⟨v1, rfl, hS1, hb1⟩
  go_wp2_with fail
  refine (alive_any w1).mono ?_
  rintro e w2 ⟨rfl, hb2⟩
  go_wp2_with fail
  refine (refBytes_any w2 s).mono ?_
  rintro e w3 ⟨v3, rfl, hS3, hb3⟩
  have hS13 := (hS1.below hb2).below hb3
  go_wp2_with fail
  refine (same_sb w3 v1 v3 _ _ hS13 hS3).mono ?_
  rintro e w4 ⟨rfl, rfl⟩
  rw [decide_eq_true rfl]
  go_wp2_with fail
  refine (take_sb w3 v1 _ hS13).mono ?_
  rintro e w4 ⟨rfl, hb4⟩
  rw [takeOf_word]
  have hb03 : Below w.heap.size w w3 := (hb1.trans (hb2.mono hb1.size)).trans (hb3.mono (Nat.le_trans hb1.size hb2.size))
  have hb04 : Below w.heap.size w w4 := hb03.trans (hb4.mono hb03.size)
  unfold W32
  go_wp2_with fail
  refine (take_sb w4 _ bs (hr.below hb04)).mono ?_
  rintro e w5 ⟨rfl, hb5⟩
  have hb05 : Below w.heap.size w w5 := hb04.trans (hb5.mono hb04.size)
  clear hb1 hb2 hb3 hb4 hb5 hS1 hS3 hS13
  by_cases h4 : n = 4
  · subst h4
    match bs, Hl.out, hr with
    | [b0, b1, b2, b3], _, hr =>
      have ht : takeOf [b0, b1, b2, b3] = (word4 b0 b1 b2 b3, true) := rfl
      rw [ht]
      obtain ⟨x, hx⟩ : ∃ x, x = word4 b0 b1 b2 b3 := ⟨_, rfl⟩
      have hw := wordBytes_word4 b0 b1 b2 b3
      rw [← hx] at hw ⊢
      have Hw := Lib.hid hw
      clear hx hw ht
      unfold W32
      go_wp2_with fail
      refine (refBytes_any w5 x).mono ?_
      rintro e w6 ⟨v6, rfl, hS6, hb6⟩
      rw [Hw.out] at hS6
      go_wp2_with fail
      refine (same_sb w6 v6 _ _ _ hS6 ((hr.below hb05).below hb6)).mono ?_
      rintro e w7 ⟨rfl, rfl⟩
      rw [decide_eq_true rfl]
      go_wp2_with fail
      go_ret
      exact ⟨rfl, hb05.trans (hb6.mono hb05.size)⟩
  · have ht : takeOf bs = (0#32, false) := by
      have hl := Hl.out
      unfold takeOf
      split
      · simp at hl; omega
      · rfl
    rw [ht]
    have h4' : ((n : Int) != 4) = true := by rw [bne_iff_ne]; omega
    clear ht
    unfold W32
    go_wp2_with fail
    go_ret
    exact ⟨rfl, hb05⟩
theorem crcBytes_law (w : World) (b : Int) (hb : (Lit.int .u32 b).wf = true) (v0 : Value) (b0 : List UInt8) (h0 : SB w v0 b0) :
    Calls Try.prog 7 #[.int .u32 b, v0] w fun e w' => e = .returned (.bool true) ∧ Below w.heap.size w w' := by
  obtain ⟨A, n, c, rfl, hc, hcm, hA⟩ := h0
  obtain ⟨y, rfl⟩ : ∃ y : BitVec 32, b = (y.toNat : Int) := by
    have := bounds_u32 hb
    exact ⟨BitVec.ofNat 32 b.toNat, by rw [BitVec.toNat_ofNat]; omega⟩
  by_cases h : 1000 < n
  · exact crcBytes_big w y A n c h (by omega)
  · exact crcBytes_small w y A n c b0 ⟨A, n, c, rfl, hc, hcm, hA⟩ hA.len (by omega)
end Go.Proofs.Ytdmiiageihbokaa
