/-
  math/bits.Len: the shelf's contract laid at this program by the kit's own tool (lay-shelf, lay-plain).
-/
import Derived.Shelf.Small.Bits
import Derived.Shelf.Strconv.Itoa0
import Derived.Test.YtkcmacglomdfcaaProg
import Derived.Test.YtkcmacglomdfcaaPlain
import Derived.Test.YtkcmacglomdfcaaNum
import Derived.Lib.ItoaNum
namespace Go.Proofs.Ytkcmacglomdfcaa
open Go.Shelf
def lays125_ren : Go.Shelf.Ren := ⟨fun | 125 => 85 | 128 => 102 | 129 => 103 | n => n, fun | 46 => 95 | 3 => 3 | 51 => 101 | 53 => 107 | 4 => 4 | 5 => 5 | 9 => 9 | n => n, fun | n => n⟩
theorem lays125 : Go.Proofs.Lays.n125 Try.prog lays125_ren := {
  mixed := by kernel_rfl
  f125 := Try.func85.trans (congrArg some (by kernel_rfl))
  f128 := Try.func102.trans (congrArg some (by kernel_rfl))
  f129 := Try.func103.trans (congrArg some (by kernel_rfl))
  t3 := Try.underlying3
  a3 := Try.isAgg3
  z3 := Try.sizeOf3
  v3 := Try.zeroValue3
  t4 := Try.underlying4
  a4 := Try.isAgg4
  z4 := Try.sizeOf4
  v4 := Try.zeroValue4
  t5 := Try.underlying5
  a5 := Try.isAgg5
  z5 := Try.sizeOf5
  v5 := Try.zeroValue5
  t9 := Try.underlying9
  a9 := Try.isAgg9
  z9 := Try.sizeOf9
  v9 := Try.zeroValue9
  t46 := Try.underlying95
  a46 := Try.isAgg95
  z46 := Try.sizeOf95
  v46 := Try.zeroValue95
  t51 := Try.underlying101
  a51 := Try.isAgg101
  z51 := Try.sizeOf101
  v51 := Try.zeroValue101
  t53 := Try.underlying107
  a53 := Try.isAgg107
  z53 := Try.sizeOf107
  v53 := Try.zeroValue107 }
theorem bits_Len (x : Int) (w : World) (h0 : 0 ≤ x) (h1 : x ≤ 18446744073709551615) :
    Calls Try.prog 85 #[.int .u64 x] w fun e w' => e = .returned (.int .i64 (Lib.bitLen x.toNat)) ∧ w' = w := Any.bits_Len lays125 x w h0 h1
end Go.Proofs.Ytkcmacglomdfcaa

/-
  THE WALKS of leaf.Cut and the document's Cut.
-/
namespace Go.Proofs.Ytkcmacglomdfcaa
open Go.RowKit

theorem bitLen_log2 (x : Nat) (h0 : x ≠ 0) (h : x < 2 ^ 64) : Lib.bitLen x = Nat.log2 x + 1 := by
  obtain ⟨h1, h2, h3⟩ := Lib.bitLenAux_bounds 64 x h h0
  have : Nat.log2 x = Lib.bitLen x - 1 := by
    rw [Nat.log2_eq_iff h0]
    refine ⟨h2, ?_⟩
    rw [show Lib.bitLen x - 1 + 1 = Lib.bitLen x by show Lib.bitLenAux 64 x - 1 + 1 = Lib.bitLenAux 64 x; omega]
    exact h3
  have h1' : 1 ≤ Lib.bitLen x := h1
  omega
theorem shl_one (t : TypeId) (k : IntKind) (e : Nat) (he : e ≤ 62) : binOp .shl t (.int .i64 1) (.int k (e : Int)) = pure (.int .i64 ((2 ^ e : Nat) : Int)) := by
  simp only [binOp, Op.shift]
  rw [if_neg (by omega), Int.toNat_natCast, Nat.min_eq_left (show e ≤ IntKind.i64.bits from by show e ≤ 64; omega)]
  have h : 2 ^ e ≤ 2 ^ 62 := Nat.pow_le_pow_right (by decide) he
  rw [Int.one_mul, show ((2 : Int) ^ e) = ((2 ^ e : Nat) : Int) by simp]
  generalize 2 ^ e = q at h
  have hq : (q : Int) ≤ 4611686018427387904 := by
    have : q ≤ 4611686018427387904 := h
    omega
  rw [IntWalk.i64_in _ ⟨by omega, by omega⟩]
theorem cut_any (w : World) (n : Int) (h0 : -9223372036854775808 ≤ n) (h1 : n ≤ 9223372036854775807) :
    Calls Try.prog 36 #[.int .i64 n] w fun e w' => e = .returned (.int .i64 ((cutN n.toNat : Nat) : Int)) ∧ w = w' := by
  by_cases hn : n < 2
  · have hc := cutN_small (n := n.toNat) (by omega)
    rw [hc]
    go_enter Try.func36, Try.ntmps36
    go_wp2
    go_ret
    exact ⟨rfl, rfl⟩
  · obtain ⟨x, hx⟩ : ∃ x : Nat, n = (x : Int) + 1 := ⟨(n - 1).toNat, by omega⟩
    subst hx
    have hx0 : x ≠ 0 := by omega
    have hl := bitLen_log2 x hx0 (by omega)
    obtain ⟨e, he⟩ : ∃ e, e = Nat.log2 x := ⟨_, rfl⟩
    have hc : cutN ((x : Int) + 1).toNat = 2 ^ e := by
      rw [show ((x : Int) + 1).toNat = x + 1 by omega, cutN, if_neg (by omega), he]
      rfl
    have he62 : e ≤ 62 := by
      have := (Nat.log2_eq_iff (n := x) (k := e) hx0).1 he.symm
      rcases Nat.lt_or_ge 62 e with h | h
      · have : 2 ^ 63 ≤ 2 ^ e := Nat.pow_le_pow_right (by decide) h
        omega
      · exact h
    rw [hc]
    rw [← he] at hl
    have hb := fun w => bits_Len (x : Int) w (by omega) (by omega)
    rw [Int.toNat_natCast, hl] at hb
    have zz := fun t k => shl_one t k e he62
    have e1 : ((x : Int) + 1) - 1 = (x : Int) := by omega
    have e2 : (((e + 1 : Nat) : Int)) - 1 = (e : Int) := by omega
    generalize 2 ^ e = q at zz
    have HB := Lib.hid hb
    clear hb hc hl he
    go_enter Try.func36, Try.ntmps36
    go_wp2_with (go_at_call 85; refine (HB.out _).mono ?_; rintro e w' ⟨rfl, rfl⟩)
    go_ret
    exact ⟨rfl, rfl⟩
theorem refcut_any (w : World) (n : Int) (h0 : -9223372036854775808 ≤ n) (h1 : n ≤ 9223372036854775807) :
    Calls Try.prog 37 #[.int .i64 n] w fun e w' => e = .returned (.int .i64 ((cutN n.toNat : Nat) : Int)) ∧ w = w' := by
  by_cases hn : n < 2
  · have hc := cutN_small (n := n.toNat) (by omega)
    rw [hc]
    go_enter Try.func37, Try.ntmps37
    go_wp2
    go_ret
    exact ⟨rfl, rfl⟩
  · go_enter Try.func37, Try.ntmps37
    go_wp2
    go_loop [3] (fun k => ∃ q : Nat, (q : Int) < n ∧ 0 < q ∧ k = .int .i64 (q : Int) ∧ Hid (∃ j, q = 2 ^ j)) (fun k => (n - intOf k).toNat)
    case atStart => exact ⟨1, by omega, by omega, rfl, Lib.hid ⟨0, rfl⟩⟩
    case round =>
      obtain ⟨q, hq, hq0, rfl, hj⟩ := hrel
      by_cases hc : (q : Int) ≤ (n - 1) / 2
      · have hj2 : Hid (∃ j, 2 * q = 2 ^ j) := Lib.hid (by obtain ⟨j, hj⟩ := hj.out; exact ⟨j + 1, by rw [hj, Nat.pow_succ]; omega⟩)
        have b1 : 2 * (q : Int) < n := by omega
        go_wp2
        go_round
        case rel => exact ⟨2 * q, by omega, by omega, by go_num, hj2⟩
        case measure => simp [intOf]; omega
      · have hcut : cutN n.toNat = q := by
          obtain ⟨j, hj⟩ := hj.out
          rw [hj]
          exact cutN_of (by omega) (by omega)
        have HC := Lib.hid hcut
        clear hcut hj
        go_wp2
        go_ret
        exact ⟨by rw [HC.out]; rfl, rfl⟩
end Go.Proofs.Ytkcmacglomdfcaa
