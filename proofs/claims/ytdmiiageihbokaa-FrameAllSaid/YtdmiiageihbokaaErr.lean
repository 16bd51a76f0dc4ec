/-
  THE WALKS of cachetnum.Num, cachetnum.Is: errors as numbers.
-/
import Derived.Test.YtdmiiageihbokaaNum
import Derived.WalkLawsBesides
import Derived.WalkSpells
namespace Go.Proofs.Ytdmiiageihbokaa
open Go.RowKit

theorem num_err (w : World) (n : Int) (h0 : n ≠ 0) :
    Calls Try.prog 37 #[.iface 46 (.int .i64 n)] w fun e w' => e = .returned (.int .i64 n) ∧ w = w' := by
  have hne : (n != 0) = true := by rw [bne_iff_ne]; exact h0
  have hta : ∀ w, (Instr.typeAssert (.iface 46 (.int .i64 n)) 40 46 true).run Try.prog w = .ok (.tuple #[.int .i64 n, .bool true]) w := fun _ => by kernel_rfl
  go_enter Try.func37, Try.ntmps37
  go_wp2
  go_ret
  exact ⟨rfl, rfl⟩
theorem is_err (w : World) (n m : Int) (h0 : n ≠ 0) :
    Calls Try.prog 26 #[.iface 46 (.int .i64 n), .int .i64 m] w fun e w' => e = .returned (.bool (n == m)) ∧ w = w' := by
  go_enter Try.func26, Try.ntmps26
  go_wp2_with (go_at_call 37; refine (num_err _ _ h0).mono ?_; rintro e w1 ⟨rfl, rfl⟩)
  go_ret
  exact ⟨rfl, rfl⟩
end Go.Proofs.Ytdmiiageihbokaa
