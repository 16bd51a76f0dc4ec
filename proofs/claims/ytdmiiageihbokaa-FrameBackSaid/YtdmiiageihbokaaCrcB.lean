/-
  THE WALKS of crc.More and crc.Of: the check sum of a row of bytes, of rows.
-/
import Derived.Test.YtdmiiageihbokaaCrcA
namespace Go.Proofs.Ytdmiiageihbokaa
open Go.RowKit

set_option maxHeartbeats 400000 in
theorem more_any (w : World) (s : BitVec 32) (A : Option Addr) (n c : Nat) (bs : List UInt8) (hr : RB w A n bs) (hn : n ≤ maxLen) :
    Calls Try.prog 17 #[W32 s, .slice A n c] w fun e w' => e = .returned (W32 (crcMore s bs)) ∧ Below w.heap.size w w' := by
  unfold maxLen at hn
  unfold W32
  obtain ⟨ns, hns⟩ : ∃ ns, ns = ~~~ s := ⟨_, rfl⟩
  have hnot : bits .xor .u32 IntKind.u32.max (s.toNat : Int) = (ns.toNat : Int) := by rw [hns]; exact not_value s
  have Hns := Lib.hid hns
  clear hns
  go_enter Try.func17, Try.ntmps17
  go_wp2_with (first | (go_at_call 35; refine (table_any _).mono ?_; rintro e w1 ⟨rfl, hb1⟩) | ((with_reducible show wpList _ _ _ (⟨_, Op.store 64 _ _, _, _, _, _⟩ :: _) _ _); refine wpList_store_row rfl _ _ _ rfl w1.heap.size 0 (tabUp 16) rfl rfl (by rw [tabUp_size]; refine there_new' _ _ _ ?_; rfl) (by kernel_rfl) (by kernel_rfl) ?_; intro w2 hg2 hs2 ht2 hth2))
  have hb2 : Below w.heap.size w w2 := (hb1.alloc hb1.size _).grown hg2 (by have := hb1.size; simp; omega) (by intro k hk; cases hk; exact hb1.size)
  have hr2 := hr.below hb2
  have ht : ∀ i, i < 16 → w2.cell? ⟨w1.heap.size, i, none⟩ = some (.int .u32 ((tabAt i).toNat : Int)) := by
    intro i hi
    have := ht2 i (W32 (tabAt i)) (by simpa [hi] using tabUp_at 16 i hi)
    simpa [W32] using this
  clear hg2 hs2 ht2 hth2 hb1 hr
  go_loop [6, 14] (fun x i => ∃ k : Nat, k ≤ n ∧ i = .int .i64 k ∧ x = W32 (crcR ns (bs.take k))) (fun _ i => n - (intOf i).toNat)
  case atStart => exact ⟨0, Nat.zero_le _, rfl, by simp [crcR, W32]⟩
  case round =>
    obtain ⟨k, hk, rfl, rfl⟩ := hrel
    unfold W32
    by_cases hlt : k < n
    · obtain ⟨b, o, d, rfl, hd, hc⟩ := hr2.at_ hlt
      have hd8 := d.toNat_lt
      obtain ⟨x, hx⟩ : ∃ x, x = crcR ns (bs.take k) := ⟨_, rfl⟩
      rw [← hx]
      obtain ⟨i1, hi1⟩ : ∃ i, i = (x.toNat ^^^ d.toNat) % 16 := ⟨_, rfl⟩
      obtain ⟨y, hy⟩ : ∃ y, y = nib x d.toNat := ⟨_, rfl⟩
      obtain ⟨i2, hi2⟩ : ∃ i, i = (y.toNat ^^^ (d.toNat / 16)) % 16 := ⟨_, rfl⟩
      obtain ⟨z, hz⟩ : ∃ z, z = nib y (d.toNat / 16) := ⟨_, rfl⟩
      have q1 : bits .and .u32 (bits .xor .u32 (x.toNat : Int) (d.toNat : Int)) 15 = (i1 : Int) := by rw [hi1]; exact nib_index x _ (by omega)
      have q2 : bits .xor .u32 ((x.toNat : Int) / 16) ((tabAt i1).toNat : Int) = (y.toNat : Int) := by rw [nib_value, hy, nib, ← hi1]
      have q3 : bits .and .u32 (bits .xor .u32 (y.toNat : Int) ((d.toNat : Int) / 16)) 15 = (i2 : Int) := by rw [hi2, show ((d.toNat : Int) / 16) = ((d.toNat / 16 : Nat) : Int) from by omega]; exact nib_index y _ (by omega)
      have q4 : bits .xor .u32 ((y.toNat : Int) / 16) ((tabAt i2).toNat : Int) = (z.toNat : Int) := by rw [nib_value, hz, nib, ← hi2]
      have hf : crcR ns (bs.take (k + 1)) = z := by rw [take_snoc hd, crcR_snoc, ← hx, hz, hy]; rfl
      have hi1' : i1 < 16 := by omega
      have hi2' : i2 < 16 := by omega
      have hc1 := ht i1 hi1'
      have hc2 := ht i2 hi2'
      have Hf := Lib.hid hf
      clear hf hx hi1 hy hi2 hz hd ht hr2 hnot
      go_wp2
      go_round
      case rel => exact ⟨k + 1, by omega, by go_num, by rw [Hf.out]⟩
      case measure => simp [intOf]; omega
    · obtain rfl : k = n := by omega
      obtain ⟨r, hr⟩ : ∃ r, r = crcMore s bs := ⟨_, rfl⟩
      have hfull : bs.take k = bs := by rw [List.take_of_length_le (by rw [hr2.len]; exact Nat.le_refl _)]
      obtain ⟨x, hx⟩ : ∃ x, x = crcR ns bs := ⟨_, rfl⟩
      have hnot2 : bits .xor .u32 IntKind.u32.max (x.toNat : Int) = (r.toNat : Int) := by rw [hr, crcMore, ← Hns.out, ← hx]; exact not_value _
      have Hr := Lib.hid hr
      rw [hfull, ← hx]
      clear hfull hx hnot hr
      go_wp2
      go_ret
      exact ⟨by rw [Hr.out]; rfl, hb2⟩
theorem more_sb (w : World) (s : BitVec 32) (v : Value) (bs : List UInt8) (hr : SB w v bs) :
    Calls Try.prog 17 #[W32 s, v] w fun e w' => e = .returned (W32 (crcMore s bs)) ∧ Below w.heap.size w w' := by
  obtain ⟨A, n, c, rfl, h1, h2, h3⟩ := hr
  exact more_any w s A n c bs h3 (by omega)

theorem of_any (w : World) (v : Value) (ps : List (List UInt8)) (hr : SBs w v ps) :
    Calls Try.prog 16 #[v] w fun e w' => e = .returned (W32 (crcSum ps.flatten)) ∧ Below w.heap.size w w' := by
  obtain ⟨vs, ⟨A, n, c, rfl, h1, h2, h3⟩, hl, hp⟩ := hr
  unfold maxLen at h2
  go_enter Try.func16, Try.ntmps16
  go_wp2
  go_loopw [3, 8] (fun x i wr => ∃ k : Nat, k ≤ n ∧ i = .int .i64 k ∧ x = W32 (crcSum (ps.take k).flatten) ∧ Below w.heap.size w wr) (fun _ i _ => n - (intOf i).toNat)
  case atStart => exact ⟨0, Nat.zero_le _, rfl, by simp [W32, crcSum_nil], Below.refl _ _⟩
  case round =>
    obtain ⟨k, hk, rfl, rfl, hb⟩ := hrel
    by_cases hlt : k < n
    · obtain ⟨b, o, u, rfl, hu, hc⟩ := (h3.below hb).at_ hlt
      obtain ⟨bs, hbs⟩ : ∃ bs, ps[k]? = some bs := ⟨_, List.getElem?_eq_getElem (by rw [← hl, h3.len]; exact hlt)⟩
      have hS := (hp k u bs hu hbs).below hb
      obtain ⟨x, hx⟩ : ∃ x, x = crcSum (ps.take k).flatten := ⟨_, rfl⟩
      have hf : crcSum (ps.take (k + 1)).flatten = crcMore x bs := by rw [take_snoc hbs, List.flatten_append, crcSum_append, ← hx]; simp
      rw [← hx]
      have Hf := Lib.hid hf
      have Hl := Lib.hid hl
      clear hf hx hbs hp hl hu
      go_wp2_with (go_at_call 17; refine (more_sb _ x u bs hS).mono ?_; rintro e w1 ⟨rfl, hb1⟩)
      go_roundw
      case rel => exact ⟨k + 1, by omega, by go_num, by rw [Hf.out], hb.trans (hb1.mono hb.size)⟩
      case measure => simp [intOf]; omega
    · obtain rfl : k = n := by omega
      have hfull : ps.take k = ps := by rw [List.take_of_length_le (by rw [← hl, h3.len]; exact Nat.le_refl _)]
      rw [hfull]
      clear hp hl
      go_wp2
      go_ret
      exact ⟨rfl, hb⟩
end Go.Proofs.Ytdmiiageihbokaa
