/-
  A TEXT FILLED UP, AND ITS DIGEST, plainly (words of 64 bits).
-/
import Derived.Test.YtkcmacglomdfcaaSmD64
import Derived.Test.YtkcmacglomdfcaaSmA64
namespace Go.Proofs.Ytkcmacglomdfcaa
open Go.RowKit

/-- How many zeros stand behind the mark. -/
def zc64 (n : Nat) : Nat := (2 * 128 - 16 - 1 - n % 128) % 128
theorem zc64_lt (n : Nat) : zc64 n < 128 := Nat.mod_lt _ (by decide)
theorem zc64_mod (n j : Nat) (hj : j ≤ zc64 n) : (n + 1 + j) % 128 = 128 - 16 ↔ j = zc64 n := by
  unfold zc64 at *
  omega
/-- Byte number i of the length in bits, from the lowest one. -/
def lenB64 (n i : Nat) : UInt8 :=
  if 9 ≤ i then 0 else if i = 8 then UInt8.ofNat ((BitVec.ofNat 64 n) >>> 61).toNat else UInt8.ofNat (((BitVec.ofNat 64 n) <<< 3) >>> (8 * i)).toNat
def tailB64 (n : Nat) : Nat → List UInt8
  | 0 => []
  | j + 1 => tailB64 n j ++ [lenB64 n (16 - 1 - j)]
theorem tailB64_len (n j : Nat) : (tailB64 n j).length = j := by
  induction j with
  | zero => rfl
  | succ j ih => simp [tailB64, ih]
def padded64 (text : List UInt8) : List UInt8 := text ++ [128] ++ List.replicate (zc64 text.length) 0 ++ tailB64 text.length 16
def cnt64 (n : Nat) : Nat := (n + 1 + zc64 n + 16) / 128
theorem padded64_len (text : List UInt8) : (padded64 text).length = cnt64 text.length * 128 := by
  simp only [padded64, List.length_append, List.length_replicate, tailB64_len, List.length_cons, List.length_nil, cnt64]
  have := zc64_mod text.length (zc64 text.length) (Nat.le_refl _)
  have h := this.2 rfl
  omega
def pieces64 (K : List (BitVec 64)) (s : St64) (bs : List UInt8) : Nat → St64
  | 0 => s
  | k + 1 => pieceSt64 K (pieces64 K s bs k) (chunkOf bs 128 k)
/-- A word's bytes, the highest first: the first j of them. -/
def wordB64 (x : BitVec 64) : Nat → List UInt8
  | 0 => []
  | j + 1 => wordB64 x j ++ [UInt8.ofNat (x >>> (64 - 8 - 8 * j)).toNat]
theorem wordB64_len (x : BitVec 64) (j : Nat) : (wordB64 x j).length = j := by
  induction j with
  | zero => rfl
  | succ j ih => simp [wordB64, ih]
def words864 (s : St64) : List (BitVec 64) := [s.a, s.b, s.c, s.d, s.e, s.f, s.g, s.h]
def out64 (s : St64) (k : Nat) : List UInt8 := ((words864 s).take k).flatMap fun x => wordB64 x 8
def digest64 (K : List (BitVec 64)) (s0 : St64) (text : List UInt8) : List UInt8 := out64 (pieces64 K s0 (padded64 text) (cnt64 text.length)) 8
end Go.Proofs.Ytkcmacglomdfcaa
