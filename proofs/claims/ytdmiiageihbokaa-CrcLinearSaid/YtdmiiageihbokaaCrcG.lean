/-
  THE WALK of the law CrcLinear.
-/
import Derived.Test.YtdmiiageihbokaaCrcE
import Derived.Test.YtdmiiageihbokaaCrcQ
import Derived.Deep.QuietTactic
import Derived.BigQuiet
import Derived.Deep.RegionHeld3
import Derived.WalkSmall
namespace Go.Proofs.Ytdmiiageihbokaa
open Go.RowKit

set_option maxHeartbeats 400000 in
theorem crcLinear_test (w : World) (A B C : Option Addr) (n m l ca cb cc : Nat) (xs ys zs : List UInt8) (hA : RB w A n xs) (hB : RB w B m ys) (hC : RB w C l zs) (ha : n ≤ ca) (ham : ca ≤ maxLen) (hb : m ≤ cb) (hbm : cb ≤ maxLen) (hc : l ≤ cc) (hcm : cc ≤ maxLen)
    (h1 : n ≤ 2000) (h2 : n ≤ m) (h3 : n ≤ l) :
    Calls Try.prog 6 #[.slice A n ca, .slice B m cb, .slice C l cc] w fun e w' => e = .returned (.bool true) ∧ Below w.heap.size w w' := by
  have hB' := hB.take h2
  have hC' := hC.take h3
  have q1 : (n : Int) ≤ (cb : Int) := by omega
  have q2 : (n : Int) ≤ (cc : Int) := by omega
  have q3 : (0 : Int) ≤ (n : Int) := by omega
  have d1 : decide (m < n) = false := by simp; omega
  have d2 : decide (l < n) = false := by simp; omega
  go_enter Try.func6, Try.ntmps6
  go_wp2_with (first | (go_at_call 13; refine (alive_any _).mono ?_; rintro e w1 ⟨rfl, hb1⟩))
  go_quiet (fail)
  go_wp2
  have hA1 := hA.below hb1
  have hB1 := hB'.below hb1
  have hC1 := hC'.below hb1
  have hlx : xs.length = n := hA.len
  have hly : (ys.take n).length = n := hB'.len
  have hlz : (zs.take n).length = n := hC'.len
  obtain ⟨R, hR⟩ : ∃ R, R = List.zipWith (· ^^^ ·) (List.zipWith (· ^^^ ·) xs (ys.take n)) (zs.take n) := ⟨_, rfl⟩
  have hRl : R.length = n := by rw [hR]; simp at hly hlz ⊢; omega
  have HR := Lib.hid hR
  have HRl := Lib.hid hRl
  have Hlx := Lib.hid hlx
  have Hly := Lib.hid hly
  have Hlz := Lib.hid hlz
  clear hR hRl hlx hly hlz hA hB hC hB' hC'
  go_loopw [7, 39] (fun x i wr => ∃ k : Nat, k ≤ n ∧ i = .int .i64 k ∧ wr.ownsRow w1.heap.size 5 1 x k ((R.take k).map B8) ∧ Below w1.heap.size w1 wr) (fun _ i _ => n - (intOf i).toNat)
  case atStart => exact ⟨0, by omega, rfl, by simpa using ownsRow_empty (w1.drewN nq) _ _ (Nat.le_refl _), (below_drewN (Below.refl _ _) nq).alloc (Nat.le_refl _) _⟩
  case round =>
    obtain ⟨k, hk, rfl, hown, hbk⟩ := hrel
    by_cases hlt : k < n
    · obtain ⟨ba, oa, x, rfl, hx, cx⟩ := hA1.at_ hlt
      have lx : ba < w1.heap.size := World.block_lt_of_cell? w1 _ cx
      have hcx := (hbk.cell (p := ⟨ba, oa + k, none⟩) lx).trans cx
      obtain ⟨bb, ob, y, rfl, hy, cy⟩ := hB1.at_ hlt
      have ly : bb < w1.heap.size := World.block_lt_of_cell? w1 _ cy
      have hcy := (hbk.cell (p := ⟨bb, ob + k, none⟩) ly).trans cy
      obtain ⟨bc, oc, z, rfl, hz, cz⟩ := hC1.at_ hlt
      have lz : bc < w1.heap.size := World.block_lt_of_cell? w1 _ cz
      have hcz := (hbk.cell (p := ⟨bc, oc + k, none⟩) lz).trans cz
      have hRk : R[k]? = some (x ^^^ y ^^^ z) := by rw [HR.out, List.getElem?_zipWith, List.getElem?_zipWith, hx, hy, hz]
      have hR1 : (R.take k).map B8 ++ [B8 (x ^^^ y ^^^ z)] = (R.take (k + 1)).map B8 := by rw [take_snoc hRk]; simp
      have v1 : bits .xor .u8 (x.toNat : Int) (y.toNat : Int) = ((x ^^^ y).toNat : Int) := by rw [u8_xor_nat _ _ x.toNat_lt y.toNat_lt, UInt8.toNat_xor]
      have v2 : bits .xor .u8 ((x ^^^ y).toNat : Int) (z.toNat : Int) = ((x ^^^ y ^^^ z).toNat : Int) := by rw [u8_xor_nat _ _ (x ^^^ y).toNat_lt z.toNat_lt, UInt8.toNat_xor (x ^^^ y)]
      obtain ⟨p, hp⟩ : ∃ p, p = x ^^^ y := ⟨_, rfl⟩
      rw [← hp] at v1 v2 hR1
      obtain ⟨q, hq⟩ : ∃ q, q = p ^^^ z := ⟨_, rfl⟩
      rw [← hq] at v2 hR1
      have HR1 := Lib.hid hR1
      have k1 : (0 : Int) ≤ (k : Int) := by omega
      have k2 : (k : Int) < (n : Int) := by omega
      clear hp hq hR1 hRk hx hy hz
      go_wp2
      go_region_held3 (fun w' => w'.cell? ⟨ba, oa + k, none⟩ = some (.int .u8 (x.toNat : Int)) ∧ w'.cell? ⟨bb, ob + k, none⟩ = some (.int .u8 (y.toNat : Int)) ∧ w'.cell? ⟨bc, oc + k, none⟩ = some (.int .u8 (z.toNat : Int))) (go_keep)
        (first | (refine step_append_row (by rfl) (.tmp 42) (.tmp 57) 22 (by rfl) w1 (by exact (hbk.alloc hbk.size _).drew) Try.underlying22 info_u8 rfl (by decide) _ k ((R.take k).map B8) (by rfl) (by exact (hown.alloc _).drew) (some ⟨wr.heap.size, 0, none⟩) 1 1 [B8 q] (by rfl) (by exact rc_new wr [B8 q] _ _) (by rfl) (by exact b8_oneCell [q]) (by unfold maxLen; omega) (by omega) ?_; intro v3 w3 hown3 hb3; rw [HR1.out] at hown3; have c3x := (hb3.cell (p := ⟨ba, oa + k, none⟩) lx).trans cx; have c3y := (hb3.cell (p := ⟨bb, ob + k, none⟩) ly).trans cy; have c3z := (hb3.cell (p := ⟨bc, oc + k, none⟩) lz).trans cz))
      go_wp2
      go_roundw
      case rel => exact ⟨k + 1, by omega, by go_num, hown3, hb3⟩
      case measure => simp [intOf]; omega
    · obtain rfl : k = n := by omega
      have hb01 : Below w.heap.size w wr := hb1.trans (hbk.mono hb1.size)
      have hRR : R.take k = R := List.take_of_length_le (by rw [HRl.out]; exact Nat.le_refl _)
      rw [hRR] at hown
      have hX : SB wr u7 R := SB.of_own (by rw [← HRl.out] at hown; exact hown)
      obtain ⟨A7, n7, c7, rfl, hX2⟩ := id hX
      have hA' : SB wr (.slice A k ca) xs := ⟨A, k, ca, rfl, ha, ham, hA1.below hbk⟩
      have hB' : SB wr (.slice B k cb) (ys.take k) := ⟨B, k, cb, rfl, by omega, hbm, hB1.below hbk⟩
      have hC' : SB wr (.slice C k cc) (zs.take k) := ⟨C, k, cc, rfl, by omega, hcm, hC1.below hbk⟩
      have hlin := crc_linear xs (ys.take k) (zs.take k) (by rw [Hlx.out, Hly.out]) (by rw [Hlx.out, Hlz.out])
      rw [← HR.out] at hlin
      obtain ⟨pR, hpR⟩ : ∃ p, p = crcSum R := ⟨_, rfl⟩
      obtain ⟨px, hpx⟩ : ∃ p, p = crcSum xs := ⟨_, rfl⟩
      obtain ⟨py, hpy⟩ : ∃ p, p = crcSum (ys.take k) := ⟨_, rfl⟩
      obtain ⟨pz, hpz⟩ : ∃ p, p = crcSum (zs.take k) := ⟨_, rfl⟩
      rw [← hpR, ← hpx, ← hpy, ← hpz] at hlin
      have HpR := Lib.hid hpR
      have Hpx := Lib.hid hpx
      have Hpy := Lib.hid hpy
      have Hpz := Lib.hid hpz
      obtain ⟨pxy, hxy⟩ : ∃ p, p = px ^^^ py := ⟨_, rfl⟩
      have e1 : bits .xor .u32 (px.toNat : Int) (py.toNat : Int) = (pxy.toNat : Int) := by rw [u32_xor_nat _ _ px.isLt py.isLt, hxy, BitVec.toNat_xor]
      have e2 : bits .xor .u32 (pxy.toNat : Int) (pz.toNat : Int) = (pR.toNat : Int) := by rw [u32_xor_nat _ _ pxy.isLt pz.isLt, hlin, BitVec.toNat_xor, hxy]
      clear hown hRR hX2 hlin hpR hpx hpy hpz hxy hA1 hB1 hC1 hbk
      go_wp2_with fail
      have hbA : Below wr.heap.size wr (wr.alloc (.cells #[.slice A7 n7 c7] 22)) := (Below.refl _ _).alloc (Nat.le_refl _) _
      refine (of_any _ _ [R] (SBs.one (hX.below hbA) (Nat.le_refl _) (by decide) (RV.of_rangeAt (rangeAt_at _ _ _ _ _ rfl) rfl))).mono ?_
      rintro e w3 ⟨rfl, hb3⟩
      rw [show [R].flatten = R by simp, ← HpR.out]
      have hb03 : Below wr.heap.size wr w3 := hbA.trans (hb3.mono (by simp))
      clear hbA hb3
      unfold W32
      go_wp2_with fail
      have hbA : Below w3.heap.size w3 (w3.alloc (.cells #[.slice A k ca] 22)) := (Below.refl _ _).alloc (Nat.le_refl _) _
      refine (of_any _ _ [xs] (SBs.one ((hA'.below hb03).below hbA) (Nat.le_refl _) (by decide) (RV.of_rangeAt (rangeAt_at _ _ _ _ _ rfl) rfl))).mono ?_
      rintro e w4 ⟨rfl, hb4⟩
      rw [show [xs].flatten = xs by simp, ← Hpx.out]
      have hb04 : Below wr.heap.size wr w4 := hb03.trans ((hbA.trans (hb4.mono (by simp))).mono hb03.size)
      clear hbA hb4 hb03
      unfold W32
      go_wp2_with fail
      have hbA : Below w4.heap.size w4 (w4.alloc (.cells #[.slice B k cb] 22)) := (Below.refl _ _).alloc (Nat.le_refl _) _
      refine (of_any _ _ [ys.take k] (SBs.one ((hB'.below hb04).below hbA) (Nat.le_refl _) (by decide) (RV.of_rangeAt (rangeAt_at _ _ _ _ _ rfl) rfl))).mono ?_
      rintro e w5 ⟨rfl, hb5⟩
      rw [show [ys.take k].flatten = ys.take k by simp, ← Hpy.out]
      have hb05 : Below wr.heap.size wr w5 := hb04.trans ((hbA.trans (hb5.mono (by simp))).mono hb04.size)
      clear hbA hb5 hb04
      unfold W32
      go_wp2_with fail
      have hbA : Below w5.heap.size w5 (w5.alloc (.cells #[.slice C k cc] 22)) := (Below.refl _ _).alloc (Nat.le_refl _) _
      refine (of_any _ _ [zs.take k] (SBs.one ((hC'.below hb05).below hbA) (Nat.le_refl _) (by decide) (RV.of_rangeAt (rangeAt_at _ _ _ _ _ rfl) rfl))).mono ?_
      rintro e w6 ⟨rfl, hb6⟩
      rw [show [zs.take k].flatten = zs.take k by simp, ← Hpz.out]
      have hb06 : Below wr.heap.size wr w6 := hb05.trans ((hbA.trans (hb6.mono (by simp))).mono hb05.size)
      clear hbA hb6 hb05
      unfold W32
      go_wp2_with fail
      go_ret
      exact ⟨rfl, hb01.trans (hb06.mono hb01.size)⟩

theorem crcLinear_out (w : World) (A B C : Option Addr) (n m l ca cb cc : Nat) (hn : n ≤ maxLen) (h : 2000 < n ∨ m < n ∨ l < n) :
    Calls Try.prog 6 #[.slice A n ca, .slice B m cb, .slice C l cc] w fun e w' => e = .returned (.bool true) ∧ Below w.heap.size w w' := by
  unfold maxLen at hn
  by_cases h1 : 2000 < n
  · go_enter Try.func6, Try.ntmps6
    go_wp2_with (go_at_call 13; refine (alive_any _).mono ?_; rintro e w1 ⟨rfl, hb1⟩)
    all_goals go_ret; exact ⟨rfl, hb1⟩
  · by_cases h2 : m < n
    · go_enter Try.func6, Try.ntmps6
      go_wp2_with (go_at_call 13; refine (alive_any _).mono ?_; rintro e w1 ⟨rfl, hb1⟩)
      all_goals go_ret; exact ⟨rfl, hb1⟩
    · have h3 : l < n := by omega
      go_enter Try.func6, Try.ntmps6
      go_wp2_with (go_at_call 13; refine (alive_any _).mono ?_; rintro e w1 ⟨rfl, hb1⟩)
      all_goals go_ret; exact ⟨rfl, hb1⟩
theorem crcLinear_law (w : World) (v0 : Value) (b0 : List UInt8) (h0 : SB w v0 b0) (v1 : Value) (b1 : List UInt8) (h1 : SB w v1 b1) (v2 : Value) (b2 : List UInt8) (h2 : SB w v2 b2) :
    Calls Try.prog 6 #[v0, v1, v2] w fun e w' => e = .returned (.bool true) ∧ Below w.heap.size w w' := by
  obtain ⟨A, n, ca, rfl, ha, ham, hA⟩ := h0
  obtain ⟨B, m, cb, rfl, hb, hbm, hB⟩ := h1
  obtain ⟨C, l, cc, rfl, hc, hcm, hC⟩ := h2
  by_cases h : 2000 < n ∨ m < n ∨ l < n
  · exact crcLinear_out w A B C n m l ca cb cc (by omega) h
  · exact crcLinear_test w A B C n m l ca cb cc b0 b1 b2 hA hB hC ha ham hb hbm hc hcm (by omega) (by omega) (by omega)
end Go.Proofs.Ytdmiiageihbokaa
