/-
  THE WALKS of frame.Put and cachetref07.Put.
-/
import Derived.Test.YtdmiiageihbokaaFrA
namespace Go.Proofs.Ytdmiiageihbokaa
open Go.RowKit

/-- What Put leaves beside 'second'. -/
def PutPost (w : World) (bs : List UInt8) (second : Value) (e : Ending) (w' : World) : Prop :=
  ∃ v, e = .returned (.tuple #[v, second]) ∧ w'.ownsRow w.heap.size 5 1 v bs.length (bs.map B8) ∧ Below w.heap.size w w'
theorem lenW_int (p : List UInt8) (n : Nat) (hn : p.length = n) (h : n < 4294967296) : Value.int .u32 (n : Int) = W32 (lenW p) := by
  rw [W32, lenW, BitVec.toNat_ofNat, hn, Nat.mod_eq_of_lt h]

theorem put_long (w : World) (A : Option Addr) (n c : Nat) (hn : 65536 < n) (hm : n ≤ maxLen) :
    Calls Try.prog 24 #[.slice A n c] w fun e w' => e = .returned (.tuple #[.slice none 0 0, .iface 46 (.int .i64 10)]) ∧ w = w' := by
  unfold maxLen at hm
  go_enter Try.func24, Try.ntmps24
  go_wp2_with (go_at_call 27; refine (size_any w (n : Int) (by omega) (by omega)).mono ?_; rintro e w1 ⟨rfl, rfl⟩; rw [if_neg (by omega)])
  go_ret2
  exact ⟨rfl, rfl⟩
theorem put_sb (w : World) (v : Value) (p : List UInt8) (h : SB w v p) (hn : p.length ≤ 65536) :
    Calls Try.prog 24 #[v] w (PutPost w (recOf p) .nilIface) := by
  have hS := h
  obtain ⟨A, n, c, rfl, h1, h2, h3⟩ := h
  have hl := h3.len
  rw [hl] at hn
  have he := lenW_int p n hl (by omega)
  have He := Lib.hid he
  have Hl := Lib.hid hl
  clear he hl h3
  have h0 : ((8 + (n : Int)) == 0) = false := by rw [beq_eq_false_iff_ne]; omega
  go_enter Try.func24, Try.ntmps24
  go_wp2_with fail
  refine (size_any w (n : Int) (by omega) (by omega)).mono ?_
  rintro e w1 ⟨rfl, rfl⟩
  rw [if_pos (show (0 : Int) ≤ (n : Int) ∧ (n : Int) ≤ 65536 by omega)]
  go_wp2_with fail
  rw [He.out]
  refine (bytes_any w (lenW p)).mono ?_
  rintro e w1 ⟨v1, rfl, hS1, hb1⟩
  obtain ⟨A1, n1, c1, rfl, _⟩ := id hS1
  have hP1 := hS.below hb1
  go_wp2_with fail
  have hbA : Below w1.heap.size w1 (w1.alloc (.cells #[.slice A1 n1 c1, .slice A n c] 22)) := (Below.refl _ _).alloc (Nat.le_refl _) _
  refine (of_any _ _ [wordBytes (lenW p), p] (SBs.two (hS1.below hbA) (hP1.below hbA) (RV.of_rangeAt (rangeAt_at _ _ _ _ _ rfl) rfl))).mono ?_
  rintro e w2 ⟨rfl, hb2⟩
  rw [show [wordBytes (lenW p), p].flatten = wordBytes (lenW p) ++ p by simp]
  have hb12 : Below w1.heap.size w1 w2 := hbA.trans (hb2.mono (by simp))
  clear hbA hb2
  go_wp2_with fail
  refine (bytes_any w2 _).mono ?_
  rintro e w3 ⟨v3, rfl, hS3, hb3⟩
  obtain ⟨A3, n3, c3, rfl, _⟩ := id hS3
  have hb13 : Below w1.heap.size w1 w3 := hb12.trans (hb3.mono hb12.size)
  have hb03 : Below w.heap.size w w3 := hb1.trans (hb13.mono hb1.size)
  go_wp2_with fail
  have hbA : Below w3.heap.size w3 (w3.alloc (.cells #[.slice A1 n1 c1, .slice A3 n3 c3, .slice A n c] 22)) := (Below.refl _ _).alloc (Nat.le_refl _) _
  have hfl : [wordBytes (lenW p), wordBytes (crcSum (wordBytes (lenW p) ++ p)), p].flatten = recOf p := by simp [recOf]
  refine (concat_any _ _ [wordBytes (lenW p), wordBytes (crcSum (wordBytes (lenW p) ++ p)), p] (SBs.three ((hS1.below hb13).below hbA) (hS3.below hbA) ((hS.below hb03).below hbA) (RV.of_rangeAt (rangeAt_at _ _ _ _ _ rfl) rfl)) (by rw [hfl, recOf_len, Hl.out]; omega)).mono ?_
  rintro e w4 ⟨v4, rfl, hown4, hb4⟩
  rw [hfl] at hown4
  have hb34 : Below w3.heap.size w3 w4 := hbA.trans (hb4.mono (by simp))
  have hown : w4.ownsRow w.heap.size 5 1 v4 (recOf p).length ((recOf p).map B8) := ownsRow_base hown4 (by have := hb03.size; simp; omega)
  clear hfl hown4
  go_wp2_with fail
  go_ret2
  exact ⟨v4, rfl, hown, hb03.trans (hb34.mono hb03.size)⟩

theorem refPut_long (w : World) (A : Option Addr) (n c : Nat) (hn : 65536 < n) (hm : n ≤ maxLen) :
    Calls Try.prog 25 #[.slice A n c] w fun e w' => e = .returned (.tuple #[.slice none 0 0, .bool false]) ∧ w = w' := by
  unfold maxLen at hm
  go_enter Try.func25, Try.ntmps25
  go_wp2
  go_ret2
  exact ⟨rfl, rfl⟩
theorem refPut_sb (w : World) (v : Value) (p : List UInt8) (h : SB w v p) (hn : p.length ≤ 65536) :
    Calls Try.prog 25 #[v] w (PutPost w (recOf p) (.bool true)) := by
  obtain ⟨A, n, c, rfl, h1, h2, h3⟩ := h
  have hl := h3.len
  rw [hl] at hn
  have hml : (p.map B8).length = n := by rw [List.length_map, hl]
  have he := lenW_int p n hl (by omega)
  have He := Lib.hid he
  have Hl := Lib.hid hl
  have Hml := Lib.hid hml
  clear he hl hml
  obtain ⟨L, hL⟩ : ∃ L, L = wordBytes (lenW p) := ⟨_, rfl⟩
  have hLl : L.length = 4 := by rw [hL]; rfl
  have HL := Lib.hid hL
  have HLl := Lib.hid hLl
  clear hL hLl
  go_enter Try.func25, Try.ntmps25
  go_wp2_with fail
  rw [He.out]
  refine (refBytes_own w (lenW p)).mono ?_
  rintro e w1 ⟨v1, rfl, hown1, hb1⟩
  rw [← HL.out, HLl.out] at hown1
  have hS1 : SB w1 v1 L := SB.of_own hown1
  obtain ⟨A1, n1, c1, rfl, k1, k2, k3⟩ := id hS1
  have hn1 : n1 = 4 := by rw [← k3.len, HLl.out]
  subst hn1
  have hb1A : Below w1.heap.size w1 (w1.alloc (.cells #[] 5)) := (Below.refl _ _).alloc (Nat.le_refl _) _
  go_wp2_with (first
    | (at_builtin; refine wpList_append_row rfl (.tmp 13) (.tmp 14) 22 rfl w1 hb1A Try.underlying22 info_u8 rfl (by decide) (.slice (some ⟨w1.heap.size, 0, none⟩) 0 0) 0 [] rfl (ownsRow_empty w1 _ _ (Nat.le_refl _)) A1 4 c1 (L.map B8) rfl ((k3.below hb1A).rc) (by rw [List.length_map, HLl.out]) (b8_oneCell L) (by unfold maxLen; omega) (by omega) ?_; intro v2 w2 hown2 hb2; rw [List.nil_append] at hown2)
    | (at_builtin; refine wpList_append_row rfl (.tmp 15) (.tmp 16) 22 rfl w1 hb2 Try.underlying22 info_u8 rfl (by decide) v2 (0 + 4) _ rfl hown2 A n c (p.map B8) rfl (((h3.below hb1).below hb2).rc) (by rw [Hml.out]; omega) (b8_oneCell p) (by unfold maxLen; omega) (by omega) ?_; intro v3 w3 hown3 hb3; rw [← List.map_append] at hown3))
  refine (refOf_sb w3 v3 (L ++ p) (SB.of_own hown3) (by rw [List.length_append, HLl.out, Hl.out]; omega)).mono ?_
  rintro e w4 ⟨rfl, rfl⟩
  obtain ⟨K, hK⟩ : ∃ K, K = wordBytes (crcSum (L ++ p)) := ⟨_, rfl⟩
  have hKl : K.length = 4 := by rw [hK]; rfl
  have HK := Lib.hid hK
  have HKl := Lib.hid hKl
  clear hK hKl
  go_wp2_with fail
  refine (refBytes_any w3 _).mono ?_
  rintro e w5 ⟨v5, rfl, hS5, hb5⟩
  rw [← HK.out] at hS5
  obtain ⟨A5, n5, c5, rfl, m1, m2, m3⟩ := hS5
  have hn5 : n5 = 4 := by rw [← m3.len, HKl.out]
  subst hn5
  have hb15 : Below w1.heap.size w1 w5 := hb3.trans (hb5.mono hb3.size)
  have hb05 : Below w.heap.size w w5 := hb1.trans (hb15.mono hb1.size)
  have hown15 := ownsRow_below hown1 hb15
  clear hown2 hown3 hb2 hb3 hb5 hb1A hS1 hown1 k3
  go_wp2_with (first
    | (at_builtin; refine wpList_append_row rfl (.tmp 19) (.tmp 21) 22 rfl w hb05 Try.underlying22 info_u8 rfl (by decide) (.slice A1 4 c1) 4 _ rfl hown15 A5 4 c5 (K.map B8) rfl m3.rc (by rw [List.length_map, HKl.out]) (b8_oneCell K) (by unfold maxLen; omega) (by omega) ?_; intro v6 w6 hown6 hb6; rw [← List.map_append] at hown6)
    | (at_builtin; refine wpList_append_row rfl (.tmp 22) (.tmp 23) 22 rfl w hb6 Try.underlying22 info_u8 rfl (by decide) v6 (4 + 4) _ rfl hown6 A n c (p.map B8) rfl ((h3.below hb6).rc) (by rw [Hml.out]; omega) (b8_oneCell p) (by unfold maxLen; omega) (by omega) ?_; intro v7 w7 hown7 hb7; rw [← List.map_append] at hown7))
  go_ret2
  have hrec : recOf p = L ++ K ++ p := by rw [recOf, ← HL.out, ← HK.out]
  refine ⟨v7, rfl, ?_, hb7⟩
  rw [hrec, List.length_append, List.length_append, HLl.out, HKl.out, Hl.out]
  exact hown7
end Go.Proofs.Ytdmiiageihbokaa
