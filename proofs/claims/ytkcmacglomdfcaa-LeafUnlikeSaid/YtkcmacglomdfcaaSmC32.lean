/-
  A PIECE, plainly (words of 32 bits).
-/
import Derived.Test.YtkcmacglomdfcaaSmB32
import Derived.Test.YtkcmacglomdfcaaChunk
namespace Go.Proofs.Ytkcmacglomdfcaa

/-- Bytes as a word, the first one the highest. -/
def be32 (l : List UInt8) : BitVec 32 := l.foldl (fun x c => x <<< 8 ||| BitVec.ofNat 32 c.toNat) 0
theorem be32_snoc (l : List UInt8) (c : UInt8) : be32 (l ++ [c]) = be32 l <<< 8 ||| BitVec.ofNat 32 c.toNat := by simp [be32]
/-- The words of a piece. -/
def words32 (p : List UInt8) : List (BitVec 32) := (List.range 16).map fun k => be32 (chunkOf p 4 k)
/-- One word more. -/
def nextW32 (w : List (BitVec 32)) : BitVec 32 := mx323 (w.getD (w.length - 2) 0) + w.getD (w.length - 7) 0 + mx322 (w.getD (w.length - 15) 0) + w.getD (w.length - 16) 0
def sched32 (w : List (BitVec 32)) : Nat → List (BitVec 32)
  | 0 => w
  | k + 1 => sched32 w k ++ [nextW32 (sched32 w k)]
theorem sched32_len (w : List (BitVec 32)) (k : Nat) : (sched32 w k).length = w.length + k := by
  induction k with
  | zero => rfl
  | succ k ih => simp [sched32, ih]; omega
structure St32 where
  a : BitVec 32
  b : BitVec 32
  c : BitVec 32
  d : BitVec 32
  e : BitVec 32
  f : BitVec 32
  g : BitVec 32
  h : BitVec 32
def rnd32 (s : St32) (k w : BitVec 32) : St32 :=
  { a := (s.h + mx321 s.e + (s.e &&& s.f ||| ~~~ s.e &&& s.g) + k + w) + (mx320 s.a + (s.a &&& s.b ||| s.a &&& s.c ||| s.b &&& s.c)), b := s.a, c := s.b, d := s.c,
    e := s.d + (s.h + mx321 s.e + (s.e &&& s.f ||| ~~~ s.e &&& s.g) + k + w), f := s.e, g := s.f, h := s.g }
def rnds32 (K W : List (BitVec 32)) (s : St32) : Nat → St32
  | 0 => s
  | j + 1 => rnd32 (rnds32 K W s j) (K.getD j 0) (W.getD j 0)
def addSt32 (s t : St32) : St32 := { a := s.a + t.a, b := s.b + t.b, c := s.c + t.c, d := s.d + t.d, e := s.e + t.e, f := s.f + t.f, g := s.g + t.g, h := s.h + t.h }
def cells32 (s : St32) : List Value := [V32 s.a, V32 s.b, V32 s.c, V32 s.d, V32 s.e, V32 s.f, V32 s.g, V32 s.h]
def pieceSt32 (K : List (BitVec 32)) (s : St32) (p : List UInt8) : St32 := addSt32 s (rnds32 K (sched32 (words32 p) (64 - 16)) s 64)
end Go.Proofs.Ytkcmacglomdfcaa
