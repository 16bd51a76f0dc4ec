/-
  A TEXT FILLED UP, AND ITS DIGEST, plainly (words of 32 bits).
-/
import Derived.Test.YtkcmacglomdfcaaSmD32
import Derived.Test.YtkcmacglomdfcaaSmA64
namespace Go.Proofs.Ytkcmacglomdfcaa
open Go.RowKit

/-- How many zeros stand behind the mark. -/
def zc32 (n : Nat) : Nat := (2 * 64 - 8 - 1 - n % 64) % 64
theorem zc32_lt (n : Nat) : zc32 n < 64 := Nat.mod_lt _ (by decide)
theorem zc32_mod (n j : Nat) (hj : j ≤ zc32 n) : (n + 1 + j) % 64 = 64 - 8 ↔ j = zc32 n := by
  unfold zc32 at *
  omega
/-- Byte number i of the length in bits, from the lowest one. -/
def lenB32 (n i : Nat) : UInt8 :=
  if 9 ≤ i then 0 else if i = 8 then UInt8.ofNat ((BitVec.ofNat 64 n) >>> 61).toNat else UInt8.ofNat (((BitVec.ofNat 64 n) <<< 3) >>> (8 * i)).toNat
def tailB32 (n : Nat) : Nat → List UInt8
  | 0 => []
  | j + 1 => tailB32 n j ++ [lenB32 n (8 - 1 - j)]
theorem tailB32_len (n j : Nat) : (tailB32 n j).length = j := by
  induction j with
  | zero => rfl
  | succ j ih => simp [tailB32, ih]
def padded32 (text : List UInt8) : List UInt8 := text ++ [128] ++ List.replicate (zc32 text.length) 0 ++ tailB32 text.length 8
def cnt32 (n : Nat) : Nat := (n + 1 + zc32 n + 8) / 64
theorem padded32_len (text : List UInt8) : (padded32 text).length = cnt32 text.length * 64 := by
  simp only [padded32, List.length_append, List.length_replicate, tailB32_len, List.length_cons, List.length_nil, cnt32]
  have := zc32_mod text.length (zc32 text.length) (Nat.le_refl _)
  have h := this.2 rfl
  omega
def pieces32 (K : List (BitVec 32)) (s : St32) (bs : List UInt8) : Nat → St32
  | 0 => s
  | k + 1 => pieceSt32 K (pieces32 K s bs k) (chunkOf bs 64 k)
/-- A word's bytes, the highest first: the first j of them. -/
def wordB32 (x : BitVec 32) : Nat → List UInt8
  | 0 => []
  | j + 1 => wordB32 x j ++ [UInt8.ofNat (x >>> (32 - 8 - 8 * j)).toNat]
theorem wordB32_len (x : BitVec 32) (j : Nat) : (wordB32 x j).length = j := by
  induction j with
  | zero => rfl
  | succ j ih => simp [wordB32, ih]
def words832 (s : St32) : List (BitVec 32) := [s.a, s.b, s.c, s.d, s.e, s.f, s.g, s.h]
def out32 (s : St32) (k : Nat) : List UInt8 := ((words832 s).take k).flatMap fun x => wordB32 x 4
def digest32 (K : List (BitVec 32)) (s0 : St32) (text : List UInt8) : List UInt8 := out32 (pieces32 K s0 (padded32 text) (cnt32 text.length)) 8
end Go.Proofs.Ytkcmacglomdfcaa
