/-
  THE WALKS of crc.Bytes, crc.Take, cachetref02.Bytes.
-/
import Derived.Test.YtdmiiageihbokaaCrcE
import Derived.Test.YtdmiiageihbokaaCrcQ
import Derived.Deep.QuietTactic
import Derived.BigQuiet
import Derived.WalkLawsBesides
namespace Go.Proofs.Ytdmiiageihbokaa
open Go.RowKit

/-- A new row of bytes. -/
def NewRow (w : World) (bs : List UInt8) (e : Ending) (w' : World) : Prop := ∃ v, e = .returned v ∧ SB w' v bs ∧ Below w.heap.size w w'

theorem low_nat (y : BitVec 32) (s : Nat) : ((lowB (y >>> s)).toNat : Int) = (y.toNat : Int) / 2 ^ s % 256 := by
  unfold lowB
  rw [UInt8.toNat_ofNat', BitVec.toNat_ushiftRight, Nat.shiftRight_eq_div_pow]
  have h1 : ((y.toNat / 2 ^ s : Nat) : Int) = (y.toNat : Int) / 2 ^ s := by simp
  rw [← h1]
  omega

theorem bytes_any (w : World) (s : BitVec 32) : Calls Try.prog 19 #[W32 s] w (NewRow w (wordBytes s)) := by
  have hs := s.isLt
  have hl : (wordBytes s).map B8 = [.int .u8 ((s.toNat : Int) % 256), .int .u8 ((s.toNat : Int) / 256 % 256), .int .u8 ((s.toNat : Int) / 65536 % 256), .int .u8 ((s.toNat : Int) / 16777216)] := by
    have l0 := low_nat s 0
    have l1 := low_nat s 8
    have l2 := low_nat s 16
    have l3 := low_nat s 24
    simp only [BitVec.ushiftRight_zero, Int.reducePow, Int.ediv_one, Int.pow_zero] at l0 l1 l2 l3
    have h4 : (s.toNat : Int) / 16777216 % 256 = (s.toNat : Int) / 16777216 := by omega
    rw [h4] at l3
    simp only [wordBytes, List.map, B8, l0, l1, l2, l3]
  have Hl := Lib.hid hl
  clear hl
  unfold W32
  go_enter Try.func19, Try.ntmps19
  go_wp2
  go_ret
  refine ⟨_, rfl, SB.of_rangeAt ?_ rfl (Nat.le_refl _) (by decide), (Below.refl _ _).alloc (Nat.le_refl _) _⟩
  rw [Hl.out]
  exact rangeAt_new w _ _ _
theorem refBytes_own (w : World) (s : BitVec 32) : Calls Try.prog 21 #[W32 s] w (OwnPost w (wordBytes s)) := by
  have hs := s.isLt
  unfold W32
  go_enter Try.func21, Try.ntmps21
  go_wp2
  go_loopw [0, 3, 4] (fun x v i wr => ∃ k : Nat, k ≤ 4 ∧ i = .int .i64 k ∧ x = W32 (s >>> (8 * k)) ∧ wr.ownsRow w.heap.size 5 1 v k (((wordBytes s).take k).map B8) ∧ Below w.heap.size w wr) (fun _ _ i _ => 4 - (intOf i).toNat)
  case atStart => exact ⟨0, by omega, rfl, by simp [W32], by simpa using World.ownsRow_nil w _ _ _, Below.refl _ _⟩
  case round =>
    obtain ⟨k, hk, rfl, rfl, hown, hb⟩ := hrel
    by_cases hlt : k < 4
    · obtain ⟨x, hx⟩ : ∃ x, x = s >>> (8 * k) := ⟨_, rfl⟩
      have hx32 := x.isLt
      have hw : (wordBytes s)[k]? = some (lowB x) := by
        rw [hx]
        have : k = 0 ∨ k = 1 ∨ k = 2 ∨ k = 3 := by omega
        rcases this with e | e | e | e <;> rw [e] <;> simp [wordBytes]
      have hn : ((wordBytes s).take k).map B8 ++ [B8 (lowB x)] = ((wordBytes s).take (k + 1)).map B8 := by rw [take_snoc hw]; simp
      have hs8 : s >>> (8 * (k + 1)) = x >>> 8 := by rw [hx, ← BitVec.shiftRight_add]; rfl
      have hl : B8 (lowB x) = .int .u8 ((x.toNat : Int) % 256) := by
        have := low_nat x 0
        simp only [BitVec.ushiftRight_zero, Int.ediv_one, Int.pow_zero] at this
        rw [B8, this]
      have hd : W32 (x >>> 8) = .int .u32 ((x.toNat : Int) / 256) := by
        rw [W32, BitVec.toNat_ushiftRight, Nat.shiftRight_eq_div_pow]
        congr 1
      rw [← hx]
      rw [hl] at hn
      have Hn := Lib.hid hn
      have Hs8 := Lib.hid hs8
      have Hd := Lib.hid hd
      unfold W32
      clear hx hw hn hs8 hl hd
      go_wp2_with (at_builtin; refine wpList_append_row rfl (.tmp 9) (.tmp 13) 22 rfl w (hb.alloc hb.size _) Try.underlying22 info_u8 rfl (by decide) _ k _ rfl (hown.alloc _) (some ⟨wr.heap.size, 0, none⟩) 1 1 [.int .u8 ((x.toNat : Int) % 256)] rfl (rc_new wr _ _ _) rfl (by intro u hu; simp at hu; subst hu; rfl) (by unfold maxLen; omega) (by omega) ?_; intro v3 w3 hown3 hb3; rw [Hn.out] at hown3)
      go_roundw
      case rel => exact ⟨k + 1, by omega, by go_num, by rw [Hs8.out]; exact Hd.out.symm, hown3, hb3⟩
      case measure => simp [intOf]; omega
    · obtain rfl : k = 4 := by omega
      have hS : wr.ownsRow w.heap.size 5 1 u3 (wordBytes s).length ((wordBytes s).map B8) := by simpa [wordBytes] using hown
      clear hown
      go_wp2_with fail
      go_ret
      exact ⟨_, rfl, hS, hb⟩
theorem refBytes_any (w : World) (s : BitVec 32) : Calls Try.prog 21 #[W32 s] w (NewRow w (wordBytes s)) :=
  (refBytes_own w s).mono fun _ _ ⟨v, he, ho, hb⟩ => ⟨v, he, SB.of_own ho, hb⟩
theorem or_add (x y s : Nat) (hx : x < 2 ^ s) (hy : y * 2 ^ s + 2 ^ s ≤ 4294967296) : bits .or .u32 (x : Int) ((y : Int) * (2 ^ s : Nat)) = ((x + y * 2 ^ s : Nat) : Int) := by
  have e : (y : Int) * (2 ^ s : Nat) = ((y * 2 ^ s : Nat) : Int) := by rw [Int.natCast_mul]
  rw [e, u32_or_nat _ _ (by omega) (by omega)]
  have h := Nat.shiftLeft_add_eq_or_of_lt hx y
  rw [Nat.shiftLeft_eq] at h
  rw [Nat.or_comm, ← h, Nat.add_comm]
theorem take_four (w : World) (A : Option Addr) (c : Nat) (b0 b1 b2 b3 : UInt8) (hr : RB w A 4 [b0, b1, b2, b3]) :
    Calls Try.prog 22 #[.slice A 4 c] w fun e w' => e = .returned (.tuple #[W32 (word4 b0 b1 b2 b3), .bool true]) ∧ Below w.heap.size w w' := by
  obtain ⟨b, o, rfl, hcell⟩ := hr.2 (by omega)
  have c0 : w.cell? ⟨b, o, none⟩ = some (.int .u8 (b0.toNat : Int)) := hcell 0 _ rfl
  have c1 : w.cell? ⟨b, o + 1, none⟩ = some (.int .u8 (b1.toNat : Int)) := hcell 1 _ rfl
  have c2 : w.cell? ⟨b, o + 2, none⟩ = some (.int .u8 (b2.toNat : Int)) := hcell 2 _ rfl
  have c3 : w.cell? ⟨b, o + 3, none⟩ = some (.int .u8 (b3.toNat : Int)) := hcell 3 _ rfl
  have d0 := b0.toNat_lt
  have d1 := b1.toNat_lt
  have d2 := b2.toNat_lt
  have d3 := b3.toNat_lt
  have ha : (Instr.arrayAt 66 (.slice (some ⟨b, o, none⟩) 4 c)).run Try.prog w = .ok (.pointer (some ⟨b, o, none⟩)) w := run_arrayAt _ _ 5 4 _ 4 c Try.underlying66 (Nat.le_refl _)
  have i0 : ∀ w, (Instr.index 66 (.agg #[.int .u8 (b0.toNat : Int), .int .u8 (b1.toNat : Int), .int .u8 (b2.toNat : Int), .int .u8 (b3.toNat : Int)]) (.int .i64 0)).run Try.prog w = .ok (.int .u8 (b0.toNat : Int)) w := fun _ => by kernel_rfl
  have i1 : ∀ w, (Instr.index 66 (.agg #[.int .u8 (b0.toNat : Int), .int .u8 (b1.toNat : Int), .int .u8 (b2.toNat : Int), .int .u8 (b3.toNat : Int)]) (.int .i64 1)).run Try.prog w = .ok (.int .u8 (b1.toNat : Int)) w := fun _ => by kernel_rfl
  have i2 : ∀ w, (Instr.index 66 (.agg #[.int .u8 (b0.toNat : Int), .int .u8 (b1.toNat : Int), .int .u8 (b2.toNat : Int), .int .u8 (b3.toNat : Int)]) (.int .i64 2)).run Try.prog w = .ok (.int .u8 (b2.toNat : Int)) w := fun _ => by kernel_rfl
  have i3 : ∀ w, (Instr.index 66 (.agg #[.int .u8 (b0.toNat : Int), .int .u8 (b1.toNat : Int), .int .u8 (b2.toNat : Int), .int .u8 (b3.toNat : Int)]) (.int .i64 3)).run Try.prog w = .ok (.int .u8 (b3.toNat : Int)) w := fun _ => by kernel_rfl
  go_enter Try.func22, Try.ntmps22
  go_wp2
  refine wp_loop_rounds 5 ?_
  rw [rounds_succ]
  go_wp2
  iterate 4 (rw [rounds_succ]; go_wp2)
  go_ret2
  refine ⟨?_, (Below.refl _ _).alloc (Nat.le_refl _) _⟩
  have o0 := or_add 0 b0.toNat 0 (by omega) (by omega)
  have o1 := or_add b0.toNat b1.toNat 8 (by omega) (by omega)
  have o2 := or_add (b0.toNat + b1.toNat * 256) b2.toNat 16 (by omega) (by omega)
  have o3 := or_add (b0.toNat + b1.toNat * 256 + b2.toNat * 65536) b3.toNat 24 (by omega) (by omega)
  have hv : bits .or .u32 (bits .or .u32 (bits .or .u32 (bits .or .u32 0 (b0.toNat : Int)) ((b1.toNat : Int) * 256)) ((b2.toNat : Int) * 65536)) ((b3.toNat : Int) * 16777216) = ((word4 b0 b1 b2 b3).toNat : Int) := by
    simp at o0 o1 o2 o3
    rw [word4_toNat, o0, o1, o2, o3]
    simp
  show Ending.returned (.tuple #[.int .u32 (bits .or .u32 (bits .or .u32 (bits .or .u32 (bits .or .u32 0 (b0.toNat : Int)) ((b1.toNat : Int) * 256)) ((b2.toNat : Int) * 65536)) ((b3.toNat : Int) * 16777216)), .bool true]) = _
  rw [hv]
  rfl
theorem take_not (w : World) (A : Option Addr) (n c : Nat) (h : n ≠ 4) :
    Calls Try.prog 22 #[.slice A n c] w fun e w' => e = .returned (.tuple #[W32 0#32, .bool false]) ∧ w = w' := by
  have h4 : ((n : Int) != 4) = true := by rw [bne_iff_ne]; omega
  go_enter Try.func22, Try.ntmps22
  go_wp2
  go_ret2
  exact ⟨rfl, rfl⟩
/-- Take, of any row. -/
def takeOf : List UInt8 → BitVec 32 × Bool
  | [a, b, c, d] => (word4 a b c d, true)
  | _ => (0#32, false)
theorem take_sb (w : World) (v : Value) (bs : List UInt8) (h : SB w v bs) :
    Calls Try.prog 22 #[v] w fun e w' => e = .returned (.tuple #[W32 (takeOf bs).1, .bool (takeOf bs).2]) ∧ Below w.heap.size w w' := by
  obtain ⟨A, n, c, rfl, h1, h2, h3⟩ := h
  by_cases h4 : n = 4
  · subst h4
    have hl := h3.len
    match bs, hl with
    | [b0, b1, b2, b3], _ => exact take_four w A c b0 b1 b2 b3 h3
  · have e : takeOf bs = (0#32, false) := by
      have hl := h3.len
      unfold takeOf
      split
      · simp at hl; omega
      · rfl
    rw [e]
    refine (take_not w A n c h4).mono ?_
    rintro e w' ⟨rfl, rfl⟩
    exact ⟨rfl, Below.refl _ _⟩
end Go.Proofs.Ytdmiiageihbokaa
