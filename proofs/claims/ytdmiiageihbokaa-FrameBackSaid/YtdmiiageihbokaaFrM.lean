/-
  WORDS for FrameBack: what is put, one behind the other, and where each ends.
-/
import Derived.Test.YtdmiiageihbokaaFrJ
import Derived.Test.YtdmiiageihbokaaFrE
namespace Go.Proofs.Ytdmiiageihbokaa
open Go.RowKit

theorem info_int : (Try.prog.info? 3).map (fun i => (i.zero, i.size, i.bytes)) = some (some (.int .i64 0), 1, 8) := by kernel_rfl
/-- Where the first k payloads' records end. -/
def endC (ps : List (List UInt8)) (k : Nat) : List Value := (List.range (k + 1)).map fun j => .int .i64 (recsLen (ps.take j) : Int)
theorem endC_succ (ps : List (List UInt8)) (k : Nat) : endC ps (k + 1) = endC ps k ++ [.int .i64 (recsLen (ps.take (k + 1)) : Int)] := by
  simp [endC, List.range_succ (n := k + 1)]
theorem endC_at (ps : List (List UInt8)) {k j : Nat} (h : j ≤ k) : (endC ps k)[j]? = some (.int .i64 (recsLen (ps.take j) : Int)) := by
  simp only [endC, List.getElem?_map]
  rw [List.getElem?_range (by omega)]
  rfl
theorem endC_zero (ps : List (List UInt8)) : endC ps 0 = [.int .i64 0] := by simp [endC, recsLen]

/-- Between two rounds of FrameBack's first loop. -/
structure BackIn (w1 : World) (ps : List (List UInt8)) (k : Nat) (a E : Value) (W : World) : Prop where
  below : Below w1.heap.size w1 W
  sz : w1.heap.size + 3 ≤ W.heap.size
  row : W.ownsRow w1.heap.size 5 1 a (recs (ps.take k)).length ((recs (ps.take k)).map B8)
  ebox : W.heap[w1.heap.size + 2]? = some (.cells #[E] 57 (0, 0))
  ends : W.ownsRow w1.heap.size 3 1 E (k + 1) (endC ps k)
theorem BackIn.next {w1 W W' : World} {ps : List (List UInt8)} {k : Nat} {a E : Value} (h : BackIn w1 ps k a E W) (hb : Below W.heap.size W W') : BackIn w1 ps k a E W' :=
  ⟨h.below.trans (hb.mono h.below.size), Nat.le_trans h.sz hb.size, ownsRow_below h.row hb, heap_below h.ebox hb, ownsRow_below h.ends hb⟩
theorem BackIn.grow {w1 W w3 : World} {ps : List (List UInt8)} {k : Nat} {a E : Value} (h : BackIn w1 ps k a E W) (hgr : W.grownBy w3 a.ownBlock) :
    w3.heap[w1.heap.size + 2]? = some (.cells #[E] 57 (0, 0)) ∧ w3.ownsRow w1.heap.size 3 1 E (k + 1) (endC ps k) := by
  have hs := h.sz
  exact ⟨(hgr.block _ (by omega) (fun e => own_notBox h.row h.ebox (by decide) e.symm)).trans h.ebox, own_kept_unlike h.ends h.row (by decide) hgr⟩
theorem BackIn.step {w1 w3 w5 : World} {ps : List (List UInt8)} {k : Nat} {v3 v5 E : Value} {c : Value} (hsz : w1.heap.size + 3 ≤ w3.heap.size)
    (h3 : w3.ownsRow w1.heap.size 5 1 v3 (recs (ps.take (k + 1))).length ((recs (ps.take (k + 1))).map B8)) (he : w3.heap[w1.heap.size + 2]? = some (.cells #[E] 57 (0, 0))) (hE : w3.ownsRow w1.heap.size 3 1 E (k + 1) (endC ps k))
    (h5 : w5.ownsRow w1.heap.size 3 1 v5 (k + 1 + 1) (endC ps (k + 1))) (hb5 : Below w1.heap.size w1 w5) (hgr : (w3.alloc (.cells #[c] 3)).grownBy w5 E.ownBlock) :
    w5.heap[w1.heap.size + 2]? = some (.cells #[E] 57 (0, 0)) ∧ BackIn w1 ps (k + 1) v3 v5 (w5.setCell ⟨w1.heap.size + 2, 0, none⟩ v5) := by
  have hbA : Below w3.heap.size w3 (w3.alloc (.cells #[c] 3)) := (Below.refl _ _).alloc (Nat.le_refl _) _
  have he5 : w5.heap[w1.heap.size + 2]? = some (.cells #[E] 57 (0, 0)) := (hgr.block _ (by simp; omega) (fun e => own_notBox hE he (by decide) e.symm)).trans (heap_below he hbA)
  have hs5 := hgr.size
  simp at hs5
  refine ⟨he5, hb5.setCell (p := ⟨w1.heap.size + 2, 0, none⟩) (by simp) _, by simp [World.setCell]; omega, own_setBox (own_kept_unlike (h3.alloc _) (hE.alloc _) (by decide) hgr) he5 (by decide) 0 _, ?_, own_setBox h5 he5 (by decide) 0 _⟩
  rw [heap_setCell_same _ _ 0 _ _ _ he5]
  rfl
end Go.Proofs.Ytdmiiageihbokaa
