/-
  THE WALKS of frame.Size, frame.first, slices.Clone.
-/
import Derived.Test.YtdmiiageihbokaaCrcH
import Derived.Test.YtdmiiageihbokaaFrP
import Derived.Test.YtdmiiageihbokaaSlices
import Derived.WalkSpells
namespace Go.Proofs.Ytdmiiageihbokaa
open Go.RowKit

theorem clone_sb (w : World) (v : Value) (bs : List UInt8) (h : SB w v bs) (hn : bs.length ≤ 140737488355328) :
    Calls Try.prog 40 #[v] w (OwnPost w bs) := by
  obtain ⟨A, n, c, rfl, h1, h2, h3⟩ := h
  have hl := h3.len
  rw [hl] at hn
  have Hl := Lib.hid hl
  clear hl
  cases A with
  | none =>
    have hk := Lib.run_eql_slice_nil (P := Try.prog) w 22 5 none n c 0 0 Try.underlying22
    have h0 : n = 0 := RV.zero_of_none h3
    subst h0
    have : bs = [] := List.eq_nil_of_length_eq_zero Hl.out
    subst this
    go_enter Try.func40, Try.ntmps40
    go_wp2
    go_ret
    exact ⟨_, rfl, World.ownsRow_nil _ _ _ _, Below.refl _ _⟩
  | some ad =>
    have hk := Lib.run_eql_slice_nil (P := Try.prog) w 22 5 (some ad) n c 0 0 Try.underlying22
    have hml : (bs.map B8).length = n := by rw [List.length_map, Hl.out]
    have Hml := Lib.hid hml
    clear hml
    go_enter Try.func40, Try.ntmps40
    go_wp2_with (at_builtin; refine wpList_append_row rfl (.tmp 5) (.tmp 6) 22 rfl w ((Below.refl _ _).alloc (Nat.le_refl _) _) Try.underlying22 info_u8 rfl (by decide) (.slice (some ⟨w.heap.size, 0, none⟩) 0 0) 0 [] rfl (ownsRow_empty w _ _ (Nat.le_refl _)) (some ad) n c (bs.map B8) rfl ((h3.below ((Below.refl _ _).alloc (Nat.le_refl _) _)).rc) (by rw [Hml.out]; omega) (b8_oneCell bs) (by unfold maxLen; omega) (by omega) ?_; intro v2 w2 hown hb2; rw [List.nil_append, Nat.zero_add] at hown)
    go_ret
    exact ⟨_, rfl, by rw [Hl.out]; exact hown, hb2⟩

theorem size_any (w : World) (n : Int) (h1 : -9223372036854775808 ≤ n) (h2 : n ≤ 9223372036854775807) :
    Calls Try.prog 27 #[.int .i64 n] w fun e w' => e = .returned (.int .i64 (if 0 ≤ n ∧ n ≤ 65536 then 8 + n else 0)) ∧ w = w' := by
  by_cases hn : n < 0
  · rw [if_neg (by omega)]
    go_enter Try.func27, Try.ntmps27
    go_wp2
    go_ret
    exact ⟨rfl, rfl⟩
  · by_cases hm : 65536 < n
    · rw [if_neg (by omega)]
      go_enter Try.func27, Try.ntmps27
      go_wp2
      go_ret
      exact ⟨rfl, rfl⟩
    · rw [if_pos (by omega)]
      go_enter Try.func27, Try.ntmps27
      go_wp2
      go_ret
      exact ⟨rfl, rfl⟩

/-- What first leaves. -/
def FirstPost (w : World) (row : List UInt8) (e : Ending) (w' : World) : Prop :=
  ∃ pv ok, e = .returned (.tuple #[pv, .bool ok]) ∧ Below w.heap.size w w' ∧ ((∃ p, firstOf row = some p ∧ ok = true ∧ SB w' pv p) ∨ (firstOf row = none ∧ ok = false))
theorem first_short (w : World) (A : Option Addr) (n c : Nat) (row : List UInt8) (hr : RB w A n row) (hn : n < 8) :
    Calls Try.prog 39 #[.slice A n c] w (FirstPost w row) := by
  have hf : firstOf row = none := by
    have hl := hr.len
    unfold firstOf
    split
    · simp at hl; omega
    · rfl
  have Hf := Lib.hid hf
  clear hf
  go_enter Try.func39, Try.ntmps39
  go_wp2
  go_ret2
  exact ⟨_, _, rfl, Below.refl _ _, .inr ⟨Hf.out, rfl⟩⟩
theorem first_long (w : World) (A : Option Addr) (n c : Nat) (b0 b1 b2 b3 c0 c1 c2 c3 : UInt8) (rest : List UInt8) (hr : RB w A n (b0 :: b1 :: b2 :: b3 :: c0 :: c1 :: c2 :: c3 :: rest)) (hc : n ≤ c) (hm : c ≤ maxLen) :
    Calls Try.prog 39 #[.slice A n c] w (FirstPost w (b0 :: b1 :: b2 :: b3 :: c0 :: c1 :: c2 :: c3 :: rest)) := by
  have hl := hr.len
  simp only [List.length_cons] at hl
  have hm' := hm
  unfold maxLen at hm'
  have h4 : RB w A 4 [b0, b1, b2, b3] := by simpa using hr.take (k := 4) (by omega)
  have h8 := (hr.take (k := 8) (by omega)).cut (k := 4) (cap := c) (by omega) (by omega)
  have S4 : SB w (.slice A 4 c) [b0, b1, b2, b3] := ⟨A, 4, c, rfl, by omega, hm, h4⟩
  obtain ⟨b, o, rfl, _⟩ := hr.2 (by omega)
  have S8 : SB w (.slice (some ⟨b, o + 4, none⟩) 4 (c - 4)) [c0, c1, c2, c3] := by
    rw [if_neg (by omega)] at h8
    refine ⟨_, 4, c - 4, rfl, by omega, by omega, ?_⟩
    simpa [Addr.add_mid] using h8
  have n8 : ¬ (n : Int) < 8 := by omega
  have n4 : (4 : Int) ≤ (c : Int) := by omega
  have n84 : (8 : Int) ≤ (c : Int) := by omega
  have hcn : (n : Int) ≤ (c : Int) := by omega
  obtain ⟨z, hz⟩ : ∃ z, z = word4 b0 b1 b2 b3 := ⟨_, rfl⟩
  obtain ⟨y, hy⟩ : ∃ y, y = word4 c0 c1 c2 c3 := ⟨_, rfl⟩
  have hz32 := z.isLt
  have hy32 := y.isLt
  have Hz := Lib.hid hz
  have Hy := Lib.hid hy
  have Hl := Lib.hid hl
  have hn : n = rest.length + 8 := by omega
  have Hn := Lib.hid hn
  clear hl hz hy hn h4 h8
  by_cases h1 : z.toNat ≤ 65536
  · by_cases h2 : z.toNat + 8 ≤ n
    · -- the record is all there: its sum decides
      have hpay : ∀ A', (c = 8 → A' = some ⟨b, o, none⟩) → (c ≠ 8 → A' = some ⟨b, o + 8, none⟩) → SB w (.slice A' z.toNat (c - 8)) (rest.take z.toNat) := by
        intro A' ha hb
        have h0 := (hr.cut (k := 8) (cap := c) (by have := Hn.out; omega) hc).take (k := z.toNat) (by omega)
        have ea : (if c = 8 then some (⟨b, o, none⟩ : Addr) else (some (⟨b, o, none⟩ : Addr)).map (·.add 8)) = A' := by
          by_cases e : c = 8
          · rw [if_pos e, ha e]
          · rw [if_neg e, hb e]; simp [Addr.add_mid]
        rw [ea] at h0
        exact ⟨A', z.toNat, c - 8, rfl, by omega, by omega, h0⟩
      have hfirst : firstOf (b0 :: b1 :: b2 :: b3 :: c0 :: c1 :: c2 :: c3 :: rest) = if y = crcSum ([b0, b1, b2, b3] ++ rest.take z.toNat) then some (rest.take z.toNat) else none := by
        show (if (word4 b0 b1 b2 b3).toNat ≤ 65536 ∧ (word4 b0 b1 b2 b3).toNat ≤ rest.length then if word4 c0 c1 c2 c3 = crcSum ([b0, b1, b2, b3] ++ rest.take (word4 b0 b1 b2 b3).toNat) then some (rest.take (word4 b0 b1 b2 b3).toNat) else none else none) = _
        rw [← Hz.out, ← Hy.out, if_pos ⟨h1, by have := Hn.out; omega⟩]
      have Hf := Lib.hid hfirst
      clear hfirst hr
      obtain ⟨q, hq⟩ : ∃ q, q = crcSum ([b0, b1, b2, b3] ++ rest.take z.toNat) := ⟨_, rfl⟩
      have Hq := Lib.hid hq
      clear hq
      have hq32 := q.isLt
      have fin : ∀ (w' : World) (pv : Value), Below w.heap.size w w' → SB w' pv (rest.take z.toNat) →
          FirstPost w (b0 :: b1 :: b2 :: b3 :: c0 :: c1 :: c2 :: c3 :: rest) (.returned (.tuple #[pv, .bool ((y.toNat : Int) == (q.toNat : Int))])) w' := by
        intro w' pv hb hs
        refine ⟨_, _, rfl, hb, ?_⟩
        rw [Hf.out, ← Hq.out]
        by_cases e : y = q
        · subst e
          exact .inl ⟨_, if_pos rfl, by simp, hs⟩
        · refine .inr ⟨if_neg e, ?_⟩
          rw [beq_eq_false_iff_ne]
          intro h
          exact e (BitVec.eq_of_toNat_eq (by omega))
      have Fin := Lib.hid fin
      clear fin
      by_cases e8 : c = 8
      · have SP := hpay _ (fun _ => rfl) (fun h => absurd e8 h)
        have Hpay := Lib.hid hpay
        clear hpay
        subst e8
        go_enter Try.func39, Try.ntmps39
        go_wp2_with fail
        refine (take_sb w _ _ S4).mono ?_
        rintro e w1 ⟨rfl, hb1⟩
        rw [show takeOf [b0, b1, b2, b3] = (word4 b0 b1 b2 b3, true) from rfl, ← Hz.out]
        unfold W32
        go_wp2_with fail
        refine (take_sb w1 _ _ (S8.below hb1)).mono ?_
        rintro e w2 ⟨rfl, hb2⟩
        rw [show takeOf [c0, c1, c2, c3] = (word4 c0 c1 c2 c3, true) from rfl, ← Hy.out]
        unfold W32
        have hb02 : Below w.heap.size w w2 := hb1.trans (hb2.mono hb1.size)
        go_wp2_with fail
        have hbA : Below w2.heap.size w2 (w2.alloc (.cells #[.slice (some ⟨b, o, none⟩) 4 8, .slice (some ⟨b, o, none⟩) z.toNat 0] 22)) := (Below.refl _ _).alloc (Nat.le_refl _) _
        have SP2 : SB w2 (.slice (some ⟨b, o, none⟩) z.toNat 0) (rest.take z.toNat) := SP.below hb02
        refine (of_any _ _ [[b0, b1, b2, b3], rest.take z.toNat] (SBs.two ((S4.below hb02).below hbA) (SP2.below hbA) (RV.of_rangeAt (rangeAt_at _ _ _ _ _ rfl) rfl))).mono ?_
        rintro e w3 ⟨rfl, hb3⟩
        have hb23 : Below w2.heap.size w2 w3 := hbA.trans (hb3.mono (by simp))
        rw [show [[b0, b1, b2, b3], rest.take z.toNat].flatten = [b0, b1, b2, b3] ++ rest.take z.toNat by simp, ← Hq.out]
        unfold W32
        go_wp2_with fail
        go_ret2
        exact Fin.out w3 _ (hb02.trans (hb23.mono hb02.size)) (SP2.below hb23)
      · have SP := hpay _ (fun h => absurd h e8) (fun _ => rfl)
        have Hpay := Lib.hid hpay
        clear hpay
        go_enter Try.func39, Try.ntmps39
        go_wp2_with fail
        refine (take_sb w _ _ S4).mono ?_
        rintro e w1 ⟨rfl, hb1⟩
        rw [show takeOf [b0, b1, b2, b3] = (word4 b0 b1 b2 b3, true) from rfl, ← Hz.out]
        unfold W32
        go_wp2_with fail
        refine (take_sb w1 _ _ (S8.below hb1)).mono ?_
        rintro e w2 ⟨rfl, hb2⟩
        rw [show takeOf [c0, c1, c2, c3] = (word4 c0 c1 c2 c3, true) from rfl, ← Hy.out]
        unfold W32
        have hb02 : Below w.heap.size w w2 := hb1.trans (hb2.mono hb1.size)
        go_wp2_with fail
        have hbA : Below w2.heap.size w2 (w2.alloc (.cells #[.slice (some ⟨b, o, none⟩) 4 c, .slice (some ⟨b, o + 8, none⟩) z.toNat (c - 8)] 22)) := (Below.refl _ _).alloc (Nat.le_refl _) _
        have SP2 := SP.below hb02
        refine (of_any _ _ [[b0, b1, b2, b3], rest.take z.toNat] (SBs.two ((S4.below hb02).below hbA) (SP2.below hbA) (RV.of_rangeAt (rangeAt_at _ _ _ _ _ rfl) rfl))).mono ?_
        rintro e w3 ⟨rfl, hb3⟩
        have hb23 : Below w2.heap.size w2 w3 := hbA.trans (hb3.mono (by simp))
        rw [show [[b0, b1, b2, b3], rest.take z.toNat].flatten = [b0, b1, b2, b3] ++ rest.take z.toNat by simp, ← Hq.out]
        unfold W32
        go_wp2_with fail
        go_ret2
        exact Fin.out w3 _ (hb02.trans (hb23.mono hb02.size)) (SP2.below hb23)
    · -- too long for the row
      have hfirst : firstOf (b0 :: b1 :: b2 :: b3 :: c0 :: c1 :: c2 :: c3 :: rest) = none := by
        show (if (word4 b0 b1 b2 b3).toNat ≤ 65536 ∧ (word4 b0 b1 b2 b3).toNat ≤ rest.length then _ else none) = _
        rw [← Hz.out, if_neg (by have := Hn.out; omega)]
      have Hf := Lib.hid hfirst
      have h2' : (n : Int) - 8 < (z.toNat : Int) := by omega
      clear hfirst hr
      go_enter Try.func39, Try.ntmps39
      go_wp2_with fail
      refine (take_sb w _ _ S4).mono ?_
      rintro e w1 ⟨rfl, hb1⟩
      rw [show takeOf [b0, b1, b2, b3] = (word4 b0 b1 b2 b3, true) from rfl, ← Hz.out]
      unfold W32
      go_wp2_with fail
      go_ret2
      exact ⟨_, _, rfl, hb1, .inr ⟨Hf.out, rfl⟩⟩
  · have hfirst : firstOf (b0 :: b1 :: b2 :: b3 :: c0 :: c1 :: c2 :: c3 :: rest) = none := by
      show (if (word4 b0 b1 b2 b3).toNat ≤ 65536 ∧ (word4 b0 b1 b2 b3).toNat ≤ rest.length then _ else none) = _
      rw [← Hz.out, if_neg (by omega)]
    have Hf := Lib.hid hfirst
    have h1' : (65536 : Int) < (z.toNat : Int) := by omega
    clear hfirst hr
    go_enter Try.func39, Try.ntmps39
    go_wp2_with fail
    refine (take_sb w _ _ S4).mono ?_
    rintro e w1 ⟨rfl, hb1⟩
    rw [show takeOf [b0, b1, b2, b3] = (word4 b0 b1 b2 b3, true) from rfl, ← Hz.out]
    unfold W32
    go_wp2_with fail
    go_ret2
    exact ⟨_, _, rfl, hb1, .inr ⟨Hf.out, rfl⟩⟩
theorem first_sb (w : World) (v : Value) (row : List UInt8) (h : SB w v row) :
    Calls Try.prog 39 #[v] w (FirstPost w row) := by
  obtain ⟨A, n, c, rfl, h1, h2, h3⟩ := h
  by_cases h8 : n < 8
  · exact first_short w A n c row h3 h8
  · have hl := h3.len
    match row, hl, h3 with
    | b0 :: b1 :: b2 :: b3 :: c0 :: c1 :: c2 :: c3 :: rest, _, h3 => exact first_long w A n c b0 b1 b2 b3 c0 c1 c2 c3 rest h3 h1 h2
    | [], hl, _ => simp at hl; omega
    | [_], hl, _ => simp at hl; omega
    | [_, _], hl, _ => simp at hl; omega
    | [_, _, _], hl, _ => simp at hl; omega
    | [_, _, _, _], hl, _ => simp at hl; omega
    | [_, _, _, _, _], hl, _ => simp at hl; omega
    | [_, _, _, _, _, _], hl, _ => simp at hl; omega
    | [_, _, _, _, _, _, _], hl, _ => simp at hl; omega
end Go.Proofs.Ytdmiiageihbokaa
