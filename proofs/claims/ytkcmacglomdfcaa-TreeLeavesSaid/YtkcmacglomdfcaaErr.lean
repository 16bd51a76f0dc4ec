/-
  THE WALKS of cachetnum.Num, cachetnum.Is: errors as numbers.
-/
import Derived.Test.YtkcmacglomdfcaaNum
import Derived.WalkLawsBesides
import Derived.WalkSpells
namespace Go.Proofs.Ytkcmacglomdfcaa
open Go.RowKit

theorem num_err (w : World) (n : Int) (h0 : n ≠ 0) :
    Calls Try.prog 87 #[.iface 58 (.int .i64 n)] w fun e w' => e = .returned (.int .i64 n) ∧ w = w' := by
  have hne : (n != 0) = true := by rw [bne_iff_ne]; exact h0
  have hta : ∀ w, (Instr.typeAssert (.iface 58 (.int .i64 n)) 52 58 true).run Try.prog w = .ok (.tuple #[.int .i64 n, .bool true]) w := fun _ => by kernel_rfl
  go_enter Try.func87, Try.ntmps87
  go_wp2
  go_ret
  exact ⟨rfl, rfl⟩
theorem is_err (w : World) (n m : Int) (h0 : n ≠ 0) :
    Calls Try.prog 46 #[.iface 58 (.int .i64 n), .int .i64 m] w fun e w' => e = .returned (.bool (n == m)) ∧ w = w' := by
  go_enter Try.func46, Try.ntmps46
  go_wp2_with (go_at_call 87; refine (num_err _ _ h0).mono ?_; rintro e w1 ⟨rfl, rfl⟩)
  go_ret
  exact ⟨rfl, rfl⟩
end Go.Proofs.Ytkcmacglomdfcaa
