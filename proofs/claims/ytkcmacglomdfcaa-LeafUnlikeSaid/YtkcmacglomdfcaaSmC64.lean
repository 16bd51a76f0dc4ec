/-
  A PIECE, plainly (words of 64 bits).
-/
import Derived.Test.YtkcmacglomdfcaaSmB64
import Derived.Test.YtkcmacglomdfcaaChunk
namespace Go.Proofs.Ytkcmacglomdfcaa

/-- Bytes as a word, the first one the highest. -/
def be64 (l : List UInt8) : BitVec 64 := l.foldl (fun x c => x <<< 8 ||| BitVec.ofNat 64 c.toNat) 0
theorem be64_snoc (l : List UInt8) (c : UInt8) : be64 (l ++ [c]) = be64 l <<< 8 ||| BitVec.ofNat 64 c.toNat := by simp [be64]
/-- The words of a piece. -/
def words64 (p : List UInt8) : List (BitVec 64) := (List.range 16).map fun k => be64 (chunkOf p 8 k)
/-- One word more. -/
def nextW64 (w : List (BitVec 64)) : BitVec 64 := mx643 (w.getD (w.length - 2) 0) + w.getD (w.length - 7) 0 + mx642 (w.getD (w.length - 15) 0) + w.getD (w.length - 16) 0
def sched64 (w : List (BitVec 64)) : Nat → List (BitVec 64)
  | 0 => w
  | k + 1 => sched64 w k ++ [nextW64 (sched64 w k)]
theorem sched64_len (w : List (BitVec 64)) (k : Nat) : (sched64 w k).length = w.length + k := by
  induction k with
  | zero => rfl
  | succ k ih => simp [sched64, ih]; omega
structure St64 where
  a : BitVec 64
  b : BitVec 64
  c : BitVec 64
  d : BitVec 64
  e : BitVec 64
  f : BitVec 64
  g : BitVec 64
  h : BitVec 64
def rnd64 (s : St64) (k w : BitVec 64) : St64 :=
  { a := (s.h + mx641 s.e + (s.e &&& s.f ||| ~~~ s.e &&& s.g) + k + w) + (mx640 s.a + (s.a &&& s.b ||| s.a &&& s.c ||| s.b &&& s.c)), b := s.a, c := s.b, d := s.c,
    e := s.d + (s.h + mx641 s.e + (s.e &&& s.f ||| ~~~ s.e &&& s.g) + k + w), f := s.e, g := s.f, h := s.g }
def rnds64 (K W : List (BitVec 64)) (s : St64) : Nat → St64
  | 0 => s
  | j + 1 => rnd64 (rnds64 K W s j) (K.getD j 0) (W.getD j 0)
def addSt64 (s t : St64) : St64 := { a := s.a + t.a, b := s.b + t.b, c := s.c + t.c, d := s.d + t.d, e := s.e + t.e, f := s.f + t.f, g := s.g + t.g, h := s.h + t.h }
def cells64 (s : St64) : List Value := [V64 s.a, V64 s.b, V64 s.c, V64 s.d, V64 s.e, V64 s.f, V64 s.g, V64 s.h]
def pieceSt64 (K : List (BitVec 64)) (s : St64) (p : List UInt8) : St64 := addSt64 s (rnds64 K (sched64 (words64 p) (80 - 16)) s 80)
end Go.Proofs.Ytkcmacglomdfcaa
