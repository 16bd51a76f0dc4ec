/-
  THE WALKS of leaf.Cut and the document's Cut.
-/
import Derived.Test.YtkcmacglomdfcaaLfP
import Derived.Test.YtkcmacglomdfcaaBits
import Derived.Test.YtkcmacglomdfcaaNum
import Derived.Lib.ItoaNum
namespace Go.Proofs.Ytkcmacglomdfcaa
open Go.RowKit

theorem bitLen_log2 (x : Nat) (h0 : x ≠ 0) (h : x < 2 ^ 64) : Lib.bitLen x = Nat.log2 x + 1 := by
  obtain ⟨h1, h2, h3⟩ := Lib.bitLenAux_bounds 64 x h h0
  have : Nat.log2 x = Lib.bitLen x - 1 := by
    rw [Nat.log2_eq_iff h0]
    refine ⟨h2, ?_⟩
    rw [show Lib.bitLen x - 1 + 1 = Lib.bitLen x by show Lib.bitLenAux 64 x - 1 + 1 = Lib.bitLenAux 64 x; omega]
    exact h3
  have h1' : 1 ≤ Lib.bitLen x := h1
  omega
theorem shl_one (t : TypeId) (k : IntKind) (e : Nat) (he : e ≤ 62) : binOp .shl t (.int .i64 1) (.int k (e : Int)) = pure (.int .i64 ((2 ^ e : Nat) : Int)) := by
  simp only [binOp, Op.shift]
  rw [if_neg (by omega), Int.toNat_natCast, Nat.min_eq_left (show e ≤ IntKind.i64.bits from by show e ≤ 64; omega)]
  have h : 2 ^ e ≤ 2 ^ 62 := Nat.pow_le_pow_right (by decide) he
  rw [Int.one_mul, show ((2 : Int) ^ e) = ((2 ^ e : Nat) : Int) by simp]
  generalize 2 ^ e = q at h
  have hq : (q : Int) ≤ 4611686018427387904 := by
    have : q ≤ 4611686018427387904 := h
    omega
  rw [IntWalk.i64_in _ ⟨by omega, by omega⟩]
theorem cut_any (w : World) (n : Int) (h0 : -9223372036854775808 ≤ n) (h1 : n ≤ 9223372036854775807) :
    Calls Try.prog 36 #[.int .i64 n] w fun e w' => e = .returned (.int .i64 ((cutN n.toNat : Nat) : Int)) ∧ w = w' := by
  by_cases hn : n < 2
  · have hc := cutN_small (n := n.toNat) (by omega)
    rw [hc]
    go_enter Try.func36, Try.ntmps36
    go_wp2
    go_ret
    exact ⟨rfl, rfl⟩
  · obtain ⟨x, hx⟩ : ∃ x : Nat, n = (x : Int) + 1 := ⟨(n - 1).toNat, by omega⟩
    subst hx
    have hx0 : x ≠ 0 := by omega
    have hl := bitLen_log2 x hx0 (by omega)
    obtain ⟨e, he⟩ : ∃ e, e = Nat.log2 x := ⟨_, rfl⟩
    have hc : cutN ((x : Int) + 1).toNat = 2 ^ e := by
      rw [show ((x : Int) + 1).toNat = x + 1 by omega, cutN, if_neg (by omega), he]
      rfl
    have he62 : e ≤ 62 := by
      have := (Nat.log2_eq_iff (n := x) (k := e) hx0).1 he.symm
      rcases Nat.lt_or_ge 62 e with h | h
      · have : 2 ^ 63 ≤ 2 ^ e := Nat.pow_le_pow_right (by decide) h
        omega
      · exact h
    rw [hc]
    rw [← he] at hl
    have hb := fun w => bits_Len (x : Int) w (by omega) (by omega)
    rw [Int.toNat_natCast, hl] at hb
    have zz := fun t k => shl_one t k e he62
    have e1 : ((x : Int) + 1) - 1 = (x : Int) := by omega
    have e2 : (((e + 1 : Nat) : Int)) - 1 = (e : Int) := by omega
    generalize 2 ^ e = q at zz
    have HB := Lib.hid hb
    clear hb hc hl he
    go_enter Try.func36, Try.ntmps36
    go_wp2_with (go_at_call 85; refine (HB.out _).mono ?_; rintro e w' ⟨rfl, rfl⟩)
    go_ret
    exact ⟨rfl, rfl⟩
theorem refcut_any (w : World) (n : Int) (h0 : -9223372036854775808 ≤ n) (h1 : n ≤ 9223372036854775807) :
    Calls Try.prog 37 #[.int .i64 n] w fun e w' => e = .returned (.int .i64 ((cutN n.toNat : Nat) : Int)) ∧ w = w' := by
  by_cases hn : n < 2
  · have hc := cutN_small (n := n.toNat) (by omega)
    rw [hc]
    go_enter Try.func37, Try.ntmps37
    go_wp2
    go_ret
    exact ⟨rfl, rfl⟩
  · go_enter Try.func37, Try.ntmps37
    go_wp2
    go_loop [3] (fun k => ∃ q : Nat, (q : Int) < n ∧ 0 < q ∧ k = .int .i64 (q : Int) ∧ Hid (∃ j, q = 2 ^ j)) (fun k => (n - intOf k).toNat)
    case atStart => exact ⟨1, by omega, by omega, rfl, Lib.hid ⟨0, rfl⟩⟩
    case round =>
      obtain ⟨q, hq, hq0, rfl, hj⟩ := hrel
      by_cases hc : (q : Int) ≤ (n - 1) / 2
      · have hj2 : Hid (∃ j, 2 * q = 2 ^ j) := Lib.hid (by obtain ⟨j, hj⟩ := hj.out; exact ⟨j + 1, by rw [hj, Nat.pow_succ]; omega⟩)
        have b1 : 2 * (q : Int) < n := by omega
        go_wp2
        go_round
        case rel => exact ⟨2 * q, by omega, by omega, by go_num, hj2⟩
        case measure => simp [intOf]; omega
      · have hcut : cutN n.toNat = q := by
          obtain ⟨j, hj⟩ := hj.out
          rw [hj]
          exact cutN_of (by omega) (by omega)
        have HC := Lib.hid hcut
        clear hcut hj
        go_wp2
        go_ret
        exact ⟨by rw [HC.out]; rfl, rfl⟩
end Go.Proofs.Ytkcmacglomdfcaa
