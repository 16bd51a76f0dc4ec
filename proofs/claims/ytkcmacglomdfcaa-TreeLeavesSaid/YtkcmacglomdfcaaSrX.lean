/-
  THE ANSWER'S WORDS (words of 32 bits): right, and plain laws.
-/
import Derived.Test.YtkcmacglomdfcaaSmW
import Derived.Test.YtkcmacglomdfcaaSlices
namespace Go.Proofs.Ytkcmacglomdfcaa
open Go.RowKit

theorem right32_rot (x : BitVec 32) (n : Nat) (hn : n ≤ 32) : x >>> n + x <<< (32 - n) = rot32 x n := by
  unfold rot32
  apply BitVec.add_eq_or_of_and_eq_zero
  apply BitVec.eq_of_getLsbD_eq
  intro i hi
  rw [BitVec.getLsbD_and, BitVec.getLsbD_ushiftRight, BitVec.getLsbD_shiftLeft]
  by_cases h : i < 32 - n
  · simp [h]
  · rw [BitVec.getLsbD_of_ge x (n + i) (by omega)]
    simp
theorem right32_any (w : World) (x : BitVec 32) (n : Nat) (m : Int) (hm : m = (n : Int)) (hn : n ≤ 32) :
    Calls Try.prog 81 #[V32 x, .int .u64 m] w fun e w' => e = .returned (V32 (rot32 x n)) ∧ w' = w := by
  subst hm
  have h1 := fun t k => binOp_shr32 t k x n (n : Int) rfl hn
  have h2 := fun t k => binOp_shl32 t k x (32 - n) (32 - (n : Int)) (by omega) (by omega)
  have Hr := Lib.hid (right32_rot x n hn)
  go_enter Try.func81, Try.ntmps81
  go_wp2
  go_ret
  exact ⟨by rw [Hr.out]; rfl, rfl⟩
/-- The schedule, word by word. -/
theorem sched32_take (w : List (BitVec 32)) (n k : Nat) (hk : w.length ≤ k) (hn : k < w.length + n) : (sched32 w n)[k]? = some (nextW32 ((sched32 w n).take k)) := by
  induction n with
  | zero => omega
  | succ n ih =>
    have hl := sched32_len w n
    rw [sched32]
    by_cases h : k < w.length + n
    · rw [List.getElem?_append_left (by omega), List.take_append_of_le_length (by omega)]
      exact ih h
    · obtain rfl : k = w.length + n := by omega
      rw [List.getElem?_append_right (by omega), ← hl, List.take_left]
      simp
theorem sched32_low (w : List (BitVec 32)) (n k : Nat) (hk : k < w.length) : (sched32 w n)[k]? = w[k]? := by
  induction n with
  | zero => rfl
  | succ n ih =>
    have hl := sched32_len w n
    rw [sched32, List.getElem?_append_left (by omega), ih]
theorem be32_step (x : BitVec 32) (c : UInt8) : x * 256#32 + BitVec.ofNat 32 c.toNat = x <<< 8 ||| BitVec.ofNat 32 c.toNat := by
  have hs : x * 256#32 = x <<< 8 := by rw [BitVec.shiftLeft_eq_mul_twoPow]; rfl
  rw [hs]
  apply BitVec.add_eq_or_of_and_eq_zero
  apply BitVec.eq_of_getLsbD_eq
  intro i hi
  rw [BitVec.getLsbD_and, BitVec.getLsbD_shiftLeft, BitVec.getLsbD_ofNat]
  by_cases h : i < 8
  · simp [h]
  · have : c.toNat.testBit i = false := Nat.testBit_lt_two_pow (Nat.lt_of_lt_of_le c.toNat_lt (by show 2 ^ 8 ≤ 2 ^ i; exact Nat.pow_le_pow_right (by decide) (by omega)))
    simp [this]
end Go.Proofs.Ytkcmacglomdfcaa

/-
  THE WALK of the answer's padded (words of 32 bits).
-/
namespace Go.Proofs.Ytkcmacglomdfcaa
open Go.RowKit

theorem tailB32_at (n : Nat) : ∀ j i, i < j → (tailB32 n j)[i]? = some (lenB32 n (8 - 1 - i)) := by
  intro j
  induction j with
  | zero => intro i h; omega
  | succ j ih =>
    intro i h
    have hl := tailB32_len n j
    rw [tailB32]
    by_cases hi : i < j
    · rw [List.getElem?_append_left (by omega)]
      exact ih i hi
    · obtain rfl : i = j := by omega
      rw [List.getElem?_append_right (by omega), hl]
      simp
theorem lenB32_zero (n : Nat) : (lenB32 n 0).toNat = n % 32 * 8 := by
  simp [lenB32]
  omega
theorem lenB32_more (n : Nat) (hn : n ≤ 70368744177664) (i : Nat) (hi : i < 8 - 1) : (lenB32 n (i + 1)).toNat = n / 32 / 256 ^ i % 256 := by
  have h : i = 0 ∨ i = 1 ∨ i = 2 ∨ i = 3 ∨ i = 4 ∨ i = 5 ∨ i = 6 ∨ (7 ≤ i ∧ i ≤ 14) := by omega
  rcases h with rfl | rfl | rfl | rfl | rfl | rfl | rfl | ⟨h1, h2⟩
  · simp [lenB32, Nat.shiftRight_eq_div_pow]; omega
  · simp [lenB32, Nat.shiftRight_eq_div_pow]; omega
  · simp [lenB32, Nat.shiftRight_eq_div_pow]; omega
  · simp [lenB32, Nat.shiftRight_eq_div_pow]; omega
  · simp [lenB32, Nat.shiftRight_eq_div_pow]; omega
  · simp [lenB32, Nat.shiftRight_eq_div_pow]; omega
  · simp [lenB32, Nat.shiftRight_eq_div_pow]; omega
  · have hz : n / 32 / 256 ^ i = 0 := by
      apply Nat.div_eq_of_lt
      have : 256 ^ 7 ≤ 256 ^ i := Nat.pow_le_pow_right (by decide) h1
      omega
    rw [hz]
    unfold lenB32
    by_cases h9 : 9 ≤ i + 1
    · simp [h9]
    · obtain rfl : i = 7 := by omega
      simp [Nat.shiftRight_eq_div_pow]
      omega
/-- The length's bytes, the last j of them. -/
def lastB32 (n j : Nat) : List UInt8 := List.replicate (8 - j) 0 ++ (tailB32 n 8).drop (8 - j)
theorem lastB32_set (n j : Nat) (hj : j < 8) (x : UInt8) (hx : x = lenB32 n j) : (lastB32 n j).set (8 - 1 - j) x = lastB32 n (j + 1) := by
  have hl := tailB32_len n 8
  have ha := tailB32_at n 8 (8 - 1 - j) (by omega)
  rw [show 8 - 1 - (8 - 1 - j) = j by omega, ← hx] at ha
  unfold lastB32
  have h1 : 8 - j = (8 - 1 - j) + 1 := by omega
  have h2 : 8 - (j + 1) = 8 - 1 - j := by omega
  rw [h2, h1, List.replicate_succ', List.append_assoc, List.set_append_right _ _ (by simp), List.length_replicate, Nat.sub_self]
  congr 1
  rw [List.singleton_append, List.set_cons_zero]
  have hlt : 8 - 1 - j < (tailB32 n 8).length := by omega
  rw [List.getElem?_eq_getElem hlt, Option.some.injEq] at ha
  rw [← ha, List.getElem_cons_drop]
theorem lastB32_zero (n : Nat) : lastB32 n 0 = List.replicate 8 0 := by
  unfold lastB32
  rw [Nat.sub_zero, List.drop_eq_nil_of_le (by rw [tailB32_len]; exact Nat.le_refl _), List.append_nil]
theorem lastB32_full (n : Nat) : lastB32 n 8 = tailB32 n 8 := by
  unfold lastB32
  simp
theorem lastB32_len (n j : Nat) (hj : j ≤ 8) : (lastB32 n j).length = 8 := by
  unfold lastB32
  rw [List.length_append, List.length_replicate, List.length_drop, tailB32_len]
  omega
theorem cell_last32 {w : World} {g n j i : Nat} (h : w.heap[g]? = some (.cells ((lastB32 n j).map B8).toArray 5 (0, 0))) (hj : j ≤ 8) (hi : i < 8) : ∃ u, w.cell? ⟨g, i, none⟩ = some u := by
  rw [cell_of_row _ _ _ _ _ _ h]
  exact ⟨_, Array.getElem?_eq_getElem (by simp [lastB32_len n j hj, hi])⟩
set_option maxRecDepth 100000 in
set_option maxHeartbeats 2000000 in
theorem refpad32_any (w : World) (A : Option Addr) (n c : Nat) (text : List UInt8) (hr : RB w A n text) (hn : n ≤ 70368744177664) :
    Calls Try.prog 80 #[.slice A n c, .int .i64 64, .int .i64 8] w fun e w' => ∃ v, e = .returned v ∧ w'.ownsRow w.heap.size 5 1 v (padded32 text).length ((padded32 text).map B8) ∧ Below w.heap.size w w' := by
  obtain ⟨i, hi, hz, hsz, hby⟩ := info_parts info_u8
  have hmk : ∀ w : World, (Instr.makeSlice 22 (.int .i64 8) (.int .i64 8)).run Try.prog w = .ok (.slice (some ⟨w.heap.size, 0, none⟩) 8 8) (w.alloc (.cells ((lastB32 n 0).map B8).toArray 5)) := by
    intro w
    rw [lastB32_zero, show ((List.replicate 8 0).map B8).toArray = madeCells #[.int .u8 0] 8 by kernel_rfl]
    have h := run_make (P := Try.prog) w 22 5 i (.int .u8 0) Try.underlying22 hi hz .i64 .i64 8 8 (by omega) (by omega) (by rw [hby]; omega) (by omega)
    rw [hsz] at h
    exact h
  have hl := hr.len
  have Hl := Lib.hid hl
  have h0 := ownsRow_empty w (base := w.heap.size) 5 1 (Nat.le_refl _)
  have hb0 : Below w.heap.size w (w.alloc (.cells #[] 5)) := (Below.refl _ _).alloc (Nat.le_refl _) _
  have hr0 := hr.below hb0
  clear hl hi hz hsz hby
  go_enter Try.func80, Try.ntmps80
  go_wp2_with (first
    | (at_builtin; refine wpList_append_row rfl (.tmp 11) (.tmp 12) 22 rfl w hb0 Try.underlying22 info_u8 rfl (by decide) (.slice (some ⟨w.heap.size, 0, none⟩) 0 0) 0 [] rfl h0 A n c (text.map B8) rfl hr0.rc (by rw [List.length_map, Hl.out]; omega) (b8_oneCell text) (by unfold maxLen; omega) (by omega) ?_; intro v3 w3 hown3 hb3; rw [Nat.zero_add, List.nil_append] at hown3; obtain ⟨A3, c3, rfl, -, -, -, -⟩ := own_form hown3)
    | (at_builtin; refine wpList_append_row rfl (.tmp 13) (.tmp 14) 22 rfl w (hb3.alloc hb3.size _) Try.underlying22 info_u8 rfl (by decide) _ n (text.map B8) rfl (hown3.alloc _) (some ⟨w3.heap.size, 0, none⟩) 1 1 [B8 128] rfl (rc_new w3 _ _ _) rfl (b8_oneCell [128]) (by unfold maxLen; omega) (by omega) ?_; intro v4 w4 hown4 hb4; obtain ⟨A4, c4, rfl, -, -, -, -⟩ := own_form hown4))
  have HS := Lib.hid (⟨by simpa using hown4, hb4⟩ : w4.ownsRow w.heap.size 5 1 (.slice A4 (n + 1) c4) (n + 1 + 0) ((text ++ [128] ++ List.replicate 0 0).map B8) ∧ Below w.heap.size w w4)
  clear hown4 hb4 hown3 hb3 h0 hb0 hr0 hr
  go_loopw [7] (fun a wr => ∃ j : Nat, j ≤ zc32 n ∧ Hid (wr.ownsRow w.heap.size 5 1 a (n + 1 + j) ((text ++ [128] ++ List.replicate j 0).map B8) ∧ Below w.heap.size w wr)) (fun a _ => n + 1 + zc32 n - lenV32 a)
  case atStart => exact ⟨0, Nat.zero_le _, HS⟩
  case round =>
    obtain ⟨j, hj, hx⟩ := hrel
    obtain ⟨Aj, cj, rfl, -, -, -, -⟩ := own_form hx.out.1
    have hzm := zc32_mod n j hj
    have hzl := zc32_lt n
    obtain ⟨m, hm⟩ : ∃ m, m = n + 1 + j := ⟨_, rfl⟩
    rw [← hm] at hzm hx ⊢
    have Hm := Lib.hid hm
    have hmle : m ≤ n + 1 + 64 := by omega
    clear hm
    by_cases hjz : j = zc32 n
    · have hB : (((m : Int) + 8) % 64 != 0) = false := by
        have := hzm.2 hjz
        simp
        omega
      have HX := Lib.hid (⟨by rw [Hm.out, hjz]; rw [Hm.out, hjz] at hx; exact hx.out.1, hx.out.2⟩ : wr.ownsRow w.heap.size 5 1 (.slice Aj m cj) m ((text ++ [128] ++ List.replicate (zc32 n) 0).map B8) ∧ Below w.heap.size w wr)
      obtain ⟨wz, rfl⟩ : ∃ wz, wz = wr := ⟨_, rfl⟩
      have Hjz := Lib.hid hjz
      obtain ⟨W1, hW1⟩ : ∃ W1, W1 = wz.alloc (.cells ((lastB32 n 0).map B8).toArray 5) := ⟨_, rfl⟩
      have q1 : W1.heap[wz.heap.size]? = some (.cells ((lastB32 n 0).map B8).toArray 5 (0, 0)) := by rw [hW1]; exact heap_alloc_new _ _
      have q2 : Below wz.heap.size wz W1 := by rw [hW1]; exact (Below.refl _ _).alloc (Nat.le_refl _) _
      obtain ⟨u0, q3⟩ := cell_last32 q1 (by decide) (i := 8 - 1) (by decide)
      have q4 := frozen_blk q1 (8 - 1)
      simp only [Nat.reduceSub] at q3 q4
      have q5 : Hid (((W1.setCell ⟨wz.heap.size, 8 - 1, none⟩ (.int .u8 ((n : Int) % 32 * 8))).heap[wz.heap.size]? = some (.cells ((lastB32 n 1).map B8).toArray 5 (0, 0))) ∧ Below wz.heap.size wz (W1.setCell ⟨wz.heap.size, 8 - 1, none⟩ (.int .u8 ((n : Int) % 32 * 8)))) := by
        refine Lib.hid ⟨?_, q2.setCell (p := ⟨wz.heap.size, 8 - 1, none⟩) (Nat.le_refl _) _⟩
        have h0 := lenB32_zero n
        have h1 := lastB32_set n 0 (by decide) (lenB32 n 0) rfl
        rw [heap_setCell_same _ _ (8 - 1) _ _ _ q1, ← h1, List.map_set]
        simp only [B8, h0]
        simp
      have Q1 := Lib.hid q1
      have hmk1 := hmk wz
      rw [← hW1] at hmk1
      clear hzm hx hjz q1 q2 hmk hW1
      go_wp2
      generalize W1.setCell _ _ = wB at q5 ⊢
      clear q3 q4 Q1 hmk1
      go_loopw [9, 10] (fun q i wr => ∃ t : Nat, t < 8 ∧ i = .int .i64 (8 - 2 - (t : Int)) ∧ q = .int .i64 ((n / 32 / 256 ^ t : Nat) : Int) ∧ Hid (wr.heap[wz.heap.size]? = some (.cells ((lastB32 n (t + 1)).map B8).toArray 5 (0, 0)) ∧ Below wz.heap.size wz wr)) (fun _ i _ => (intOf i + 1).toNat)
      case atStart => exact ⟨0, by decide, rfl, by simp, q5⟩
      case round =>
        obtain ⟨t, ht, rfl, rfl, hq⟩ := hrel
        obtain ⟨N, hN⟩ : ∃ N, N = n / 32 / 256 ^ t := ⟨_, rfl⟩
        rw [← hN]
        have hNle : N ≤ 70368744177664 := by rw [hN]; exact Nat.le_trans (Nat.div_le_self _ _) (Nat.le_trans (Nat.div_le_self n 32) hn)
        have HN := Lib.hid hN
        clear hN
        by_cases htl : t + 1 < 8
        · obtain ⟨i, hi⟩ : ∃ i, i = 8 - 2 - t := ⟨_, rfl⟩
          have hie : (8 : Int) - 2 - (t : Int) = (i : Int) := by omega
          rw [hie]
          obtain ⟨u0, q3⟩ := cell_last32 hq.out.1 (by omega) (i := i) (by omega)
          have q4 := frozen_blk hq.out.1 i
          have q6 : Hid (((wr.setCell ⟨wz.heap.size, i, none⟩ (.int .u8 ((N : Int) % 256))).heap[wz.heap.size]? = some (.cells ((lastB32 n (t + 1 + 1)).map B8).toArray 5 (0, 0))) ∧ Below wz.heap.size wz (wr.setCell ⟨wz.heap.size, i, none⟩ (.int .u8 ((N : Int) % 256)))) := by
            refine Lib.hid ⟨?_, hq.out.2.setCell (p := ⟨wz.heap.size, i, none⟩) (Nat.le_refl _) _⟩
            have h0 := lenB32_more n hn t (by omega)
            have h1 := lastB32_set n (t + 1) htl (lenB32 n (t + 1)) rfl
            rw [heap_setCell_same _ _ i _ _ _ hq.out.1, ← h1, List.map_set]
            simp only [B8, h0, HN.out, show 8 - 1 - (t + 1) = i by omega]
            simp
          have Hi := Lib.hid hi
          have hi8 : i < 8 := by omega
          clear hi hie hq
          go_wp2
          go_roundw
          case rel => exact ⟨t + 1, htl, by have := Hi.out; go_num, by rw [Nat.pow_succ, ← Nat.div_div_eq_div_mul, ← HN.out]; go_num, q6⟩
          case measure => have := Hi.out; (simp [intOf]; try omega)
        · obtain rfl : t = 8 - 1 := by omega
          have e1 : (8 : Int) - 2 - ((8 - 1 : Nat) : Int) = -1 := by decide
          rw [e1]
          clear e1
          have hw := hq.out.1
          rw [show 8 - 1 + 1 = 8 from rfl, lastB32_full] at hw
          have hown := ownsRow_below HX.out.1 hq.out.2
          have hbw := HX.out.2.trans (hq.out.2.mono HX.out.2.size)
          have htl' := tailB32_len n 8
          have hrc : RC wr (some ⟨wz.heap.size, 0, none⟩) ((tailB32 n 8).map B8) := fun _ => ⟨_, _, rfl, rangeAt_blk hw⟩
          have Htl := Lib.hid htl'
          clear hw hq q5 htl'
          go_wp2_with (at_builtin; refine wpList_append_row rfl (.tmp 54) (.tmp 55) 22 rfl w hbw Try.underlying22 info_u8 rfl (by decide) (.slice Aj m cj) m _ rfl hown (some ⟨wz.heap.size, 0, none⟩) 8 8 ((tailB32 n 8).map B8) rfl hrc (by rw [List.length_map, Htl.out]) (b8_oneCell _) (by unfold maxLen; omega) (by omega) ?_; intro v9 w9 hown9 hb9)
          go_ret
          have hpl : (padded32 text).length = m + 8 := by
            simp only [padded32, List.length_append, List.length_replicate, tailB32_len, List.length_cons, List.length_nil, Hl.out, Hm.out, ← Hjz.out]
          refine ⟨_, rfl, ?_, hb9⟩
          rw [hpl]
          rw [← List.map_append] at hown9
          have hpe : padded32 text = text ++ [128] ++ List.replicate (zc32 n) 0 ++ tailB32 n 8 := by rw [padded32, Hl.out]
          rw [hpe]
          exact hown9
    · have hB : (((m : Int) + 8) % 64 != 0) = true := by
        have : ¬ m % 64 = 64 - 8 := fun h => hjz (hzm.1 h)
        simp
        omega
      have hjl : j + 1 ≤ zc32 n := by omega
      have hown := hx.out.1
      have hbw := hx.out.2
      clear hzm hjz
      go_wp2_with (at_builtin; refine wpList_append_keep rfl (.tmp 23) (.tmp 24) 22 rfl w (hbw.alloc hbw.size _) Try.underlying22 info_u8 rfl (by decide) (.slice Aj m cj) m _ rfl (hown.alloc _) (some ⟨wr.heap.size, 0, none⟩) 1 1 [B8 0] rfl (rc_new wr _ _ _) rfl (b8_oneCell [0]) (by unfold maxLen; omega) (by omega) ?_; intro v5 w5 hown5 hb5 _ _ _)
      obtain ⟨A5, c5, rfl, -, -, -, -⟩ := own_form hown5
      have HY := Lib.hid (⟨by rw [show n + 1 + (j + 1) = m + 1 by have := Hm.out; omega, List.replicate_succ', ← List.append_assoc, List.map_append]; exact hown5, hb5⟩ : w5.ownsRow w.heap.size 5 1 (.slice A5 (m + 1) c5) (n + 1 + (j + 1)) ((text ++ [128] ++ List.replicate (j + 1) 0).map B8) ∧ Below w.heap.size w w5)
      clear hown5 hb5 hown hbw hx
      go_roundw
      case rel => exact ⟨j + 1, hjl, HY⟩
      case measure => have := Hm.out; simp [lenV32]; omega
end Go.Proofs.Ytkcmacglomdfcaa
