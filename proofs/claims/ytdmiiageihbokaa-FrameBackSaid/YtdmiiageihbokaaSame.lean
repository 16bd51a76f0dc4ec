/-
  THE WALK of cachetnum.Same.
-/
import Derived.Test.YtdmiiageihbokaaNum
namespace Go.Proofs.Ytdmiiageihbokaa
open Go.RowKit

/-- Same, of two rows. -/
theorem same_any (w : World) (A B : Option Addr) (n m c d : Nat) (xs ys : List UInt8) (hx : RB w A n xs) (hy : RB w B m ys) :
    Calls Try.prog 20 #[.slice A n c, .slice B m d] w fun e w' => e = .returned (.bool (decide (xs = ys))) ∧ w = w' := by
  have k1 := run_string_of (P := Try.prog) w 22 9 5 Try.underlying22 Try.underlying5 Try.underlying9 _ n c xs hx
  have k2 := run_string_of (P := Try.prog) w 22 9 5 Try.underlying22 Try.underlying5 Try.underlying9 _ m d ys hy
  go_enter Try.func20, Try.ntmps20
  go_wp2
  go_ret
  refine ⟨?_, rfl⟩
  show Ending.returned (.bool ((strOf xs).toList == (strOf ys).toList)) = _
  rw [strOf_toList, strOf_toList]
  congr 2
  rw [Bool.eq_iff_iff]
  simp
theorem same_sb (w : World) (u v : Value) (xs ys : List UInt8) (hx : SB w u xs) (hy : SB w v ys) :
    Calls Try.prog 20 #[u, v] w fun e w' => e = .returned (.bool (decide (xs = ys))) ∧ w = w' := by
  obtain ⟨A, n, c, rfl, _, _, h3⟩ := hx
  obtain ⟨B, m, d, rfl, _, _, h6⟩ := hy
  exact same_any w A B n m c d xs ys h3 h6
end Go.Proofs.Ytdmiiageihbokaa
