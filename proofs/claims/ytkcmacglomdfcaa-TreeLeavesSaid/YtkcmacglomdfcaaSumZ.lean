/-
  THE WALK of alive in cachetlaw01.
-/
import Derived.Test.YtkcmacglomdfcaaSumX
import Derived.Stop.BytesEq
namespace Go.Proofs.Ytkcmacglomdfcaa
open Go.RowKit

theorem empty32 : (digest32 K32 H32 []).getD 0 0 = 227 ∧ (digest32 K32 H32 []).getD 1 0 = 176 ∧ (digest32 K32 H32 []).getD 31 0 = 85 := by decide +kernel
theorem empty64 : (digest64 K64 H64 []).getD 0 0 = 207 ∧ (digest64 K64 H64 []).getD 1 0 = 131 ∧ (digest64 K64 H64 []).getD 63 0 = 62 := by decide +kernel
theorem sbs_nil (w : World) : SBs w (.slice none 0 0) [] := ⟨[], ⟨none, 0, 0, rfl, Nat.le_refl _, by unfold maxLen; omega, RV.nil _ _⟩, rfl, fun k u bs h => by simp at h⟩
theorem b8_at {w : World} {b i : Nat} {D : List UInt8} {c : UInt8} (z : Int) (h : w.rangeAt b 0 (D.map B8)) (hi : i < D.length) (hc : D.getD i 0 = c) (hz : (c.toNat : Int) = z) : w.cell? ⟨b, i, none⟩ = some (.int .u8 z) := by
  have := h i (B8 c) (by rw [List.getElem?_map, List.getElem?_eq_getElem hi, ← hc, List.getD_eq_getElem?_getD, List.getElem?_eq_getElem hi]; rfl)
  rw [Nat.zero_add, B8, hz] at this
  exact this
set_option maxHeartbeats 1000000 in
theorem alive1_any (w : World) : Calls Try.prog 23 #[] w fun e w' => e = .returned (.bool true) ∧ Below w.heap.size w w' := by
  have h1 := fun w => short_any w _ _ (sbs_nil w) (by simp)
  have h2 := fun w => long_any w _ _ (sbs_nil w) (by simp)
  have hl1 := digest32_len K32 H32 []
  have hl2 := digest64_len K64 H64 []
  have he1 := empty32
  have he2 := empty64
  simp only [List.flatten_nil] at h1 h2
  generalize digest32 K32 H32 [] = D1 at h1 hl1 he1
  generalize digest64 K64 H64 [] = D2 at h2 hl2 he2
  go_enter Try.func23, Try.ntmps23
  go_wp2_with fail
  refine (h1 _).mono ?_
  rintro e w1 ⟨rfl, hb1⟩
  clear h1
  go_wp2_with fail
  refine (h2 _).mono ?_
  rintro e w2 ⟨rfl, hb2⟩
  clear h2
  have hi1 : (Try.prog.info? 26).map (·.size) = some (D1.map B8).length := by rw [List.length_map, hl1]; kernel_rfl
  have hi2 : (Try.prog.info? 32).map (·.size) = some (D2.map B8).length := by rw [List.length_map, hl2]; kernel_rfl
  have Hl1 := Lib.hid hl1
  have Hl2 := Lib.hid hl2
  have He1 := Lib.hid he1
  have He2 := Lib.hid he2
  have hb02 := hb1.trans (hb2.mono hb1.size)
  have Hb02 := Lib.hid hb02
  clear hl1 hl2 he1 he2 hb1 hb2 hb02
  go_wp2_with (first
    | ((with_reducible show wpList _ _ _ (⟨_, Op.store 26 _ _, _, _, _, _⟩ :: _) _ _); refine wpList_store_row rfl _ _ _ rfl w2.heap.size 0 (D1.map B8).toArray rfl rfl (there_blk ((Below.heap_alloc _ _ _ (by simp)).trans (heap_alloc_new w2 _)) (by simp [Hl1.out])) (by simpa using hi1) (b8_all D1) ?_; intro w8 hg8 hs8 ht8 hth8)
    | ((with_reducible show wpList _ _ _ (⟨_, Op.store 32 _ _, _, _, _, _⟩ :: _) _ _); refine wpList_store_row rfl _ _ _ rfl (w2.heap.size + 1) 0 (D2.map B8).toArray rfl rfl (there_blk ((hg8.block _ (by simp) (by simp)).trans (heap_alloc_at _ _ _ (by simp))) (by simp [Hl2.out])) (by simpa using hi2) (b8_all D2) ?_; intro w9 hg9 hs9 ht9 hth9; have k8 := rangeAt_same ht8 (hg9.block w2.heap.size (by rw [hs8.out]; simp; omega) (by simp)); have c1 := b8_at 227 k8 (i := 0) (by rw [Hl1.out]; decide) He1.out.1 rfl; have c2 := b8_at 176 k8 (i := 1) (by rw [Hl1.out]; decide) He1.out.2.1 rfl; have c3 := b8_at 85 k8 (i := 31) (by rw [Hl1.out]; decide) He1.out.2.2 rfl; have c4 := b8_at 207 ht9 (i := 0) (by rw [Hl2.out]; decide) He2.out.1 rfl; have c5 := b8_at 131 ht9 (i := 1) (by rw [Hl2.out]; decide) He2.out.2.1 rfl; have c6 := b8_at 62 ht9 (i := 63) (by rw [Hl2.out]; decide) He2.out.2.2 rfl))
  go_ret
  refine ⟨rfl, ?_⟩
  refine Below.grown (Below.grown ((Hb02.out.alloc Hb02.out.size _).alloc (by have := Hb02.out.size; simp; omega) _) hg8 (by have := Hb02.out.size; simp; omega) (by rintro k ⟨⟩; exact Hb02.out.size)) hg9 (by rw [hs8.out]; have := Hb02.out.size; simp; omega) (by rintro k ⟨⟩; have := Hb02.out.size; omega)
end Go.Proofs.Ytkcmacglomdfcaa

/-
  THE WALK of the law SumParts.
-/
namespace Go.Proofs.Ytkcmacglomdfcaa
open Go.RowKit

theorem run_eql_sum (w : World) (xs ys : List UInt8) (hx : xs.length = 32) (hy : ys.length = 32) : (binOp .eql 26 (.agg (xs.map B8).toArray) (.agg (ys.map B8).toArray)).run Try.prog w = .ok (.bool (xs == ys)) w :=
  run_eql_bytes w 26 5 32 Try.underlying26 Try.underlying5 (fun w => by kernel_rfl) xs ys hx hy
theorem run_eql_wide (w : World) (xs ys : List UInt8) (hx : xs.length = 64) (hy : ys.length = 64) : (binOp .eql 32 (.agg (xs.map B8).toArray) (.agg (ys.map B8).toArray)).run Try.prog w = .ok (.bool (xs == ys)) w :=
  run_eql_bytes w 32 5 64 Try.underlying32 Try.underlying5 (fun w => by kernel_rfl) xs ys hx hy
theorem flatten_snoc {ps : List (List UInt8)} {k : Nat} {bs : List UInt8} (h : ps[k]? = some bs) : (ps.take (k + 1)).flatten = (ps.take k).flatten ++ bs := by
  rw [take_snoc h, List.flatten_append]; simp

set_option maxHeartbeats 1000000 in
theorem sumParts_law (w : World) (v : Value) (ps : List (List UInt8)) (hv : SBs w v ps) :
    Calls Try.prog 5 #[v] w fun e w' => e = .returned (.bool true) ∧ Below w.heap.size w w' := by
  have hv0 := hv
  obtain ⟨vs, ⟨A, n, c, rfl, h1, h2, h3⟩, hl, hp⟩ := hv
  have h2' := h2
  unfold maxLen at h2
  have Hl := Lib.hid hl
  have hps : ps.length = n := by rw [← hl, h3.len]
  have Hps := Lib.hid hps
  clear hl hps
  have hsho := short_any
  have hlon := long_any
  have hsl := digest32_len K32 H32
  have hll := digest64_len K64 H64
  generalize digest32 K32 H32 = F32 at hsho hsl
  generalize digest64 K64 H64 = F64 at hlon hll
  have HS := Lib.hid hsho
  have HL := Lib.hid hlon
  have HSl := Lib.hid hsl
  have HLl := Lib.hid hll
  clear hsho hlon hsl hll
  go_enter Try.func5, Try.ntmps5
  go_wp2_with (go_at_call 23; refine (alive1_any _).mono ?_; rintro e w1 ⟨rfl, hb1⟩)
  have hv1 := hv0.below hb1
  go_loopw [3, 11] (fun a i wr => ∃ k : Nat, k ≤ n ∧ k ≤ 51 ∧ i = .int .i64 k ∧ (ps.take k).flatten.length ≤ k * 500 ∧
      wr.ownsRow w1.heap.size 5 1 a (ps.take k).flatten.length ((ps.take k).flatten.map B8) ∧ Below w1.heap.size w1 wr) (fun _ i _ => n - (intOf i).toNat)
  case atStart => exact ⟨0, Nat.zero_le _, by omega, rfl, by simp, by simpa using ownsRow_empty w1 _ _ (Nat.le_refl _), (Below.refl _ _).alloc (Nat.le_refl _) _⟩
  case round =>
    obtain ⟨k, hk, hk51, rfl, hle, hown, hb⟩ := hrel
    by_cases hlt : k < n
    · have hb01 : Below w.heap.size w wr := hb1.trans (hb.mono hb1.size)
      obtain ⟨b, o, u, rfl, hu, hc⟩ := (h3.below hb01).at_ hlt
      obtain ⟨bs, hbs⟩ : ∃ bs, ps[k]? = some bs := ⟨_, List.getElem?_eq_getElem (by rw [Hps.out]; exact hlt)⟩
      have hS := hp k u bs hu hbs
      obtain ⟨A', m, c', rfl, m1, m2, m3⟩ := hS
      have m2' := m2
      unfold maxLen at m2
      have m3l := m3.len
      have hf := flatten_snoc hbs
      obtain ⟨F, hF⟩ : ∃ F, F = (ps.take k).flatten := ⟨_, rfl⟩
      rw [← hF] at hf hle hown
      have Hf := Lib.hid hf
      have Hm := Lib.hid m3l
      clear hf hbs hp hu m3l hF
      by_cases h50 : 50 < k
      · go_wp2
        go_ret
        exact ⟨rfl, hb01⟩
      · by_cases h500 : 500 < m
        · go_wp2
          go_ret
          exact ⟨rfl, hb01⟩
        · have m3' := m3.below hb01
          go_wp2_with (at_builtin; refine wpList_append_row rfl (.tmp 23) (.tmp 24) 22 rfl w1 hb Try.underlying22 info_u8 rfl (by decide) _ F.length (F.map B8) rfl hown A' m c' (bs.map B8) rfl m3'.rc (by rw [List.length_map, Hm.out]; omega) (b8_oneCell bs) (by unfold maxLen; omega) (by omega) ?_; intro v3 w3 hown3 hb3; rw [← List.map_append] at hown3)
          have hown4 : w3.ownsRow w1.heap.size 5 1 v3 (F ++ bs).length ((F ++ bs).map B8) := by
            rw [List.length_append, Hm.out]
            exact hown3
          rw [← Hf.out] at hown4
          have hle4 : (ps.take (k + 1)).flatten.length ≤ (k + 1) * 500 := by rw [Hf.out, List.length_append, Hm.out]; omega
          clear hown hown3 m3' m3 hb
          go_roundw
          case rel => exact ⟨k + 1, by omega, by omega, by go_num, hle4, hown4, hb3⟩
          case measure => simp [intOf]; omega
    · obtain rfl : k = n := by omega
      have hfull : ps.take k = ps := List.take_of_length_le (by rw [Hps.out]; exact Nat.le_refl _)
      rw [hfull] at hown hle
      clear hfull
      have hsmall : ps.flatten.length ≤ 70368744177664 := by omega
      have hb01 : Below w.heap.size w wr := hb1.trans (hb.mono hb1.size)
      obtain ⟨A3, n3, c3, rfl, _⟩ := SB.of_own hown
      go_wp2_with fail
      refine (HS.out wr _ ps (hv0.below hb01) hsmall).mono ?_
      rintro e w2 ⟨rfl, hb2⟩
      have hall : SB w2 _ ps.flatten := (SB.of_own hown).below hb2
      have hb02 := hb01.trans (hb2.mono hb01.size)
      have hflat : [ps.flatten].flatten = ps.flatten := by simp
      go_wp2_with fail
      have hbA : Below w2.heap.size w2 (w2.alloc (.cells #[.slice A3 n3 c3] 22)) := (Below.refl _ _).alloc (Nat.le_refl _) _
      refine (HS.out _ _ [ps.flatten] (SBs.one (hall.below hbA) (Nat.le_refl _) (by decide) (RV.of_rangeAt (rangeAt_at _ _ _ _ _ rfl) rfl)) (by rw [hflat]; exact hsmall)).mono ?_
      rintro e w3 ⟨rfl, hb3⟩
      rw [hflat]
      have hall3 := (hall.below hbA).below hb3
      have hb23 : Below w2.heap.size w2 w3 := hbA.trans (hb3.mono (by simp))
      have hb03 := hb02.trans (hb23.mono hb02.size)
      have he1 := fun w => run_eql_sum w (F32 ps.flatten) (F32 ps.flatten) (HSl.out _) (HSl.out _)
      rw [beq_self_eq_true] at he1
      clear hb3 hbA hb2 hb23 hb hb1
      go_wp2_with fail
      refine (HL.out _ _ ps (hv0.below hb03) hsmall).mono ?_
      rintro e w4 ⟨rfl, hb4⟩
      have hb04 := hb03.trans (hb4.mono hb03.size)
      have hall4 := hall3.below hb4
      go_wp2_with fail
      have hbB : Below w4.heap.size w4 (w4.alloc (.cells #[.slice A3 n3 c3] 22)) := (Below.refl _ _).alloc (Nat.le_refl _) _
      refine (HL.out _ _ [ps.flatten] (SBs.one (hall4.below hbB) (Nat.le_refl _) (by decide) (RV.of_rangeAt (rangeAt_at _ _ _ _ _ rfl) rfl)) (by rw [hflat]; exact hsmall)).mono ?_
      rintro e w5 ⟨rfl, hb5⟩
      rw [hflat]
      have hb45 : Below w4.heap.size w4 w5 := hbB.trans (hb5.mono (by simp))
      have hb05 := hb04.trans (hb45.mono hb04.size)
      have he2 := fun w => run_eql_wide w (F64 ps.flatten) (F64 ps.flatten) (HLl.out _) (HLl.out _)
      rw [beq_self_eq_true] at he2
      clear hb5 hbB hb4 hb45
      go_wp2_with fail
      go_ret
      exact ⟨rfl, hb05⟩
end Go.Proofs.Ytkcmacglomdfcaa
