/-
  THE WALK of the law CrcParts.
-/
import Derived.Test.YtdmiiageihbokaaCrcD
namespace Go.Proofs.Ytdmiiageihbokaa
open Go.RowKit

theorem flatten_snoc {ps : List (List UInt8)} {k : Nat} {bs : List UInt8} (h : ps[k]? = some bs) : (ps.take (k + 1)).flatten = (ps.take k).flatten ++ bs := by
  rw [take_snoc h, List.flatten_append]; simp

set_option maxHeartbeats 400000 in
theorem crcParts_law (w : World) (v : Value) (ps : List (List UInt8)) (hv : SBs w v ps) :
    Calls Try.prog 4 #[v] w fun e w' => e = .returned (.bool true) ∧ Below w.heap.size w w' := by
  have hv0 := hv
  obtain ⟨vs, ⟨A, n, c, rfl, h1, h2, h3⟩, hl, hp⟩ := hv
  have h2' := h2
  unfold maxLen at h2
  have Hl := Lib.hid hl
  have hps : ps.length = n := by rw [← hl, h3.len]
  have Hps := Lib.hid hps
  clear hl hps
  go_enter Try.func4, Try.ntmps4
  go_wp2_with (go_at_call 13; refine (alive_any _).mono ?_; rintro e w1 ⟨rfl, hb1⟩)
  have hv1 := hv0.below hb1
  go_loopw [3, 4, 12] (fun a x i wr => ∃ k : Nat, k ≤ n ∧ k ≤ 51 ∧ i = .int .i64 k ∧ x = W32 (crcSum (ps.take k).flatten) ∧ (ps.take k).flatten.length ≤ k * 1000 ∧
      wr.ownsRow w1.heap.size 5 1 a (ps.take k).flatten.length ((ps.take k).flatten.map B8) ∧ Below w1.heap.size w1 wr) (fun _ _ i _ => n - (intOf i).toNat)
  case atStart => exact ⟨0, Nat.zero_le _, by omega, rfl, by simp [W32, crcSum_nil], by simp, by simpa using ownsRow_empty w1 _ _ (Nat.le_refl _), (Below.refl _ _).alloc (Nat.le_refl _) _⟩
  case round =>
    obtain ⟨k, hk, hk51, rfl, rfl, hle, hown, hb⟩ := hrel
    by_cases hlt : k < n
    · have hb01 : Below w.heap.size w wr := hb1.trans (hb.mono hb1.size)
      obtain ⟨b, o, u, rfl, hu, hc⟩ := (h3.below hb01).at_ hlt
      obtain ⟨bs, hbs⟩ : ∃ bs, ps[k]? = some bs := ⟨_, List.getElem?_eq_getElem (by rw [Hps.out]; exact hlt)⟩
      have hS := hp k u bs hu hbs
      obtain ⟨A', m, c', rfl, m1, m2, m3⟩ := hS
      have m2' := m2
      unfold maxLen at m2
      have m3l := m3.len
      have hf := flatten_snoc hbs
      have hs : crcSum (ps.take (k + 1)).flatten = crcMore (crcSum (ps.take k).flatten) bs := by rw [hf, crcSum_append]
      obtain ⟨F, hF⟩ : ∃ F, F = (ps.take k).flatten := ⟨_, rfl⟩
      rw [← hF] at hf hs hle hown ⊢
      have Hf := Lib.hid hf
      have Hs := Lib.hid hs
      have Hm := Lib.hid m3l
      clear hf hs hbs hp hu m3l hF
      by_cases h50 : 50 < k
      · go_wp2
        go_ret
        exact ⟨rfl, hb01⟩
      · by_cases h1000 : 1000 < m
        · go_wp2
          go_ret
          exact ⟨rfl, hb01⟩
        · have m3' := m3.below hb01
          go_wp2_with (at_builtin; refine wpList_append_row rfl (.tmp 24) (.tmp 25) 22 rfl w1 hb Try.underlying22 info_u8 rfl (by decide) _ F.length (F.map B8) rfl hown A' m c' (bs.map B8) rfl m3'.rc (by rw [List.length_map, Hm.out]; omega) (b8_oneCell bs) (by unfold maxLen; omega) (by omega) ?_; intro v3 w3 hown3 hb3; rw [← List.map_append] at hown3)
          refine (more_sb w3 _ _ bs ⟨A', m, c', rfl, m1, m2', m3.below (hb1.trans (hb3.mono hb1.size))⟩).mono ?_
          rintro e w4 ⟨rfl, hb4⟩
          rw [← Hs.out]
          have hown4 : w4.ownsRow w1.heap.size 5 1 v3 (F ++ bs).length ((F ++ bs).map B8) := by
            rw [List.length_append, Hm.out]
            exact ownsRow_below hown3 hb4
          have hb4' : Below w1.heap.size w1 w4 := hb3.trans (hb4.mono hb3.size)
          rw [← Hf.out] at hown4
          have hle4 : (ps.take (k + 1)).flatten.length ≤ (k + 1) * 1000 := by rw [Hf.out, List.length_append, Hm.out]; omega
          clear hown hown3 hb3 hb4 m3' m3 hb
          go_wp2_with fail
          go_roundw
          case rel => exact ⟨k + 1, by omega, by omega, by go_num, rfl, hle4, hown4, hb4'⟩
          case measure => simp [intOf]; omega
    · obtain rfl : k = n := by omega
      have hfull : ps.take k = ps := List.take_of_length_le (by rw [Hps.out]; exact Nat.le_refl _)
      rw [hfull] at hown ⊢
      clear hfull hle
      obtain ⟨s, hs⟩ : ∃ s, s = crcSum ps.flatten := ⟨_, rfl⟩
      have Hs := Lib.hid hs
      rw [← hs]
      clear hs
      unfold W32
      have hb01 : Below w.heap.size w wr := hb1.trans (hb.mono hb1.size)
      obtain ⟨A3, n3, c3, rfl, _⟩ := SB.of_own hown
      go_wp2_with fail
      refine (of_any wr _ ps (hv0.below hb01)).mono ?_
      rintro e w2 ⟨rfl, hb2⟩
      rw [← Hs.out]
      unfold W32
      have hall : SB w2 _ ps.flatten := (SB.of_own hown).below hb2
      go_wp2_with fail
      have hbA : Below w2.heap.size w2 (w2.alloc (.cells #[.slice A3 n3 c3] 22)) := (Below.refl _ _).alloc (Nat.le_refl _) _
      refine (of_any _ _ [ps.flatten] (SBs.one (hall.below hbA) (Nat.le_refl _) (by decide) (RV.of_rangeAt (rangeAt_at _ _ _ _ _ rfl) rfl))).mono ?_
      rintro e w3 ⟨rfl, hb3⟩
      rw [show [ps.flatten].flatten = ps.flatten by simp, ← Hs.out]
      unfold W32
      have hall3 := (hall.below hbA).below hb3
      have hb13 : Below w2.heap.size w2 w3 := hbA.trans (hb3.mono (by simp))
      clear hb3 hbA
      go_wp2_with fail
      have hbA : Below w3.heap.size w3 (w3.alloc (.cells #[.slice A3 n3 c3] 22)) := (Below.refl _ _).alloc (Nat.le_refl _) _
      refine (of_any _ _ [ps.flatten] (SBs.one (hall3.below hbA) (Nat.le_refl _) (by decide) (RV.of_rangeAt (rangeAt_at _ _ _ _ _ rfl) rfl))).mono ?_
      rintro e w4 ⟨rfl, hb4⟩
      rw [show [ps.flatten].flatten = ps.flatten by simp, ← Hs.out]
      unfold W32
      go_wp2_with fail
      go_ret
      exact ⟨rfl, ((hb01.trans (hb2.mono hb01.size)).trans (hb13.mono (Nat.le_trans hb01.size hb2.size))).trans ((hbA.trans (hb4.mono (by simp))).mono (Nat.le_trans (Nat.le_trans hb01.size hb2.size) hb13.size))⟩
end Go.Proofs.Ytdmiiageihbokaa
