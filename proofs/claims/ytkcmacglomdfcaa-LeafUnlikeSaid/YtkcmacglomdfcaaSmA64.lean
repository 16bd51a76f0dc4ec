/-
  WORDS OF 64 BITS as values, and Go's operations on them.
-/
import Derived.Test.YtkcmacglomdfcaaNum
import Derived.WalkSpells
namespace Go.Proofs.Ytkcmacglomdfcaa
open Go.RowKit

/-- A word. -/
def V64 (x : BitVec 64) : Value := .int .u64 (x.toNat : Int)
theorem V64_lit (n : Nat) : Value.int .u64 ((BitVec.ofNat 64 n).toNat : Int) = V64 (BitVec.ofNat 64 n) := rfl
@[go_sem ↓, simp high] theorem V64_cells (x : BitVec 64) : (V64 x).cells = #[V64 x] := rfl
@[go_sem ↓, simp high] theorem V64_one (x : BitVec 64) : (V64 x).oneCell' = true := rfl
@[go_sem] theorem run_store_w64 {P : Program} (w : World) (a : Addr) (m : Mode) (x : BitVec 64) : (store a (V64 x) m).run P w = stored P w a (V64 x) m := run_store P w a _ m rfl
@[go_sem] theorem run_storeCells_w64 {P : Program} (w : World) (b o : Nat) (x : BitVec 64) : (storeCells ⟨b, o, none⟩ [V64 x]).run P w = stored P w ⟨b, o, none⟩ (V64 x) .plain := by
  simp only [storeCells, Sem.run_bind, Addr.add_mid, Nat.add_zero, run_store_w64]
  cases stored P w ⟨b, o, none⟩ (V64 x) .plain with
  | ok u w' => simp [Result.andThen]
  | halt u w' => rfl
theorem V64_zero : V64 0#64 = .int .u64 0 := rfl
theorem wrap_u64_nat (n : Nat) : IntKind.u64.wrap (n : Int) = ((n % 18446744073709551616 : Nat) : Int) := by
  simp [IntKind.wrap, IntKind.bits, IntKind.signed]
theorem bv64_int (x : BitVec 64) : BitVec.ofInt 64 (x.toNat : Int) = x := by
  rw [BitVec.ofInt_natCast, BitVec.ofNat_toNat, BitVec.setWidth_eq]
theorem back64 (x : BitVec 64) : Value.int .u64 (IntKind.u64.wrap ((x.toNat : Nat) : Int)) = V64 x := by
  rw [wrap_u64_nat, Nat.mod_eq_of_lt x.isLt]
  rfl
@[go_sem] theorem binOp_add64 (t : TypeId) (x y : BitVec 64) : binOp .add t (V64 x) (V64 y) = pure (V64 (x + y)) := by
  simp only [V64, binOp, Op.intArith, ne_eq, not_true_eq_false, if_false]
  rw [← Int.natCast_add, wrap_u64_nat, BitVec.toNat_add]
@[go_sem] theorem binOp_and64 (t : TypeId) (x y : BitVec 64) : binOp .and t (V64 x) (V64 y) = pure (V64 (x &&& y)) := by
  simp only [V64, binOp, Op.intBits, ne_eq, not_true_eq_false, if_false]
  show pure (Value.int .u64 (IntKind.u64.wrap ((BitVec.ofInt 64 (x.toNat : Int) &&& BitVec.ofInt 64 (y.toNat : Int)).toNat : Int))) = _
  rw [bv64_int, bv64_int, back64]
  rfl
@[go_sem] theorem binOp_or64 (t : TypeId) (x y : BitVec 64) : binOp .or t (V64 x) (V64 y) = pure (V64 (x ||| y)) := by
  simp only [V64, binOp, Op.intBits, ne_eq, not_true_eq_false, if_false]
  show pure (Value.int .u64 (IntKind.u64.wrap ((BitVec.ofInt 64 (x.toNat : Int) ||| BitVec.ofInt 64 (y.toNat : Int)).toNat : Int))) = _
  rw [bv64_int, bv64_int, back64]
  rfl
@[go_sem] theorem binOp_xor64 (t : TypeId) (x y : BitVec 64) : binOp .xor t (V64 x) (V64 y) = pure (V64 (x ^^^ y)) := by
  simp only [V64, binOp, Op.intBits, ne_eq, not_true_eq_false, if_false]
  show pure (Value.int .u64 (IntKind.u64.wrap ((BitVec.ofInt 64 (x.toNat : Int) ^^^ BitVec.ofInt 64 (y.toNat : Int)).toNat : Int))) = _
  rw [bv64_int, bv64_int, back64]
  rfl
/-- Shifts by less than a word. -/
theorem binOp_shr64 (t : TypeId) (k : IntKind) (x : BitVec 64) (n : Nat) (m : Int) (hm : m = (n : Int)) (hn : n ≤ 64) : binOp .shr t (V64 x) (.int k m) = pure (V64 (x >>> n)) := by
  subst hm
  simp only [V64, binOp, Op.shift]
  rw [if_neg (by omega), Int.toNat_natCast, Nat.min_eq_left (show n ≤ IntKind.u64.bits from hn), BitVec.toNat_ushiftRight, Nat.shiftRight_eq_div_pow]
  congr 2
  rw [show ((2 : Int) ^ n) = ((2 ^ n : Nat) : Int) by simp, Int.fdiv_eq_ediv_of_nonneg _ (Int.natCast_nonneg _), ← Int.natCast_ediv]
theorem binOp_shl64 (t : TypeId) (k : IntKind) (x : BitVec 64) (n : Nat) (m : Int) (hm : m = (n : Int)) (hn : n ≤ 64) : binOp .shl t (V64 x) (.int k m) = pure (V64 (x <<< n)) := by
  subst hm
  simp only [V64, binOp, Op.shift]
  rw [if_neg (by omega), Int.toNat_natCast, Nat.min_eq_left (show n ≤ IntKind.u64.bits from hn), BitVec.toNat_shiftLeft, Nat.shiftLeft_eq]
  rw [show ((2 : Int) ^ n) = ((2 ^ n : Nat) : Int) by simp, ← Int.natCast_mul, wrap_u64_nat]
@[go_sem] theorem binOp_shl_lit64 (t : TypeId) (k : IntKind) (x : BitVec 64) : binOp .shl t (V64 x) (.int k 8) = pure (V64 (x <<< 8)) := binOp_shl64 t k x 8 8 rfl (by decide)
@[go_sem] theorem unary_xor64 (x : BitVec 64) : Op.unary .xor (V64 x) = pure (V64 (~~~ x)) := by
  simp only [V64, Op.unary, Op.intBits]
  show pure (Value.int .u64 (IntKind.u64.wrap ((BitVec.ofInt 64 IntKind.u64.max ^^^ BitVec.ofInt 64 (x.toNat : Int)).toNat : Int))) = _
  rw [show BitVec.ofInt 64 IntKind.u64.max = BitVec.allOnes 64 by decide, bv64_int, BitVec.allOnes_xor, back64]
  rfl
@[go_sem] theorem binOp_not64 (t : TypeId) (x : BitVec 64) : binOp .sub t (.int .u64 18446744073709551615) (V64 x) = pure (V64 (~~~ x)) := by
  simp only [V64, binOp, Op.intArith, ne_eq, not_true_eq_false, if_false]
  have h := x.isLt
  rw [show (18446744073709551615 : Int) - (x.toNat : Int) = ((18446744073709551615 - x.toNat : Nat) : Int) by omega, wrap_u64_nat, BitVec.toNat_not, Nat.mod_eq_of_lt (by omega)]
@[go_sem] theorem binOp_mul64 (t : TypeId) (x : BitVec 64) : binOp .mul t (V64 x) (.int .u64 256) = pure (V64 (x * 256#64)) := by
  simp only [V64, binOp, Op.intArith, ne_eq, not_true_eq_false, if_false]
  rw [show (x.toNat : Int) * 256 = ((x.toNat * 256 : Nat) : Int) by omega, wrap_u64_nat, BitVec.toNat_mul]
  rfl
/-- A byte as a word, and a word's lowest byte. -/
@[go_sem high] theorem run_conv_byte64 (c : UInt8) (w : World) : (convert 5 107 (.int .u8 (c.toNat : Int))).run Try.prog w = .ok (V64 (BitVec.ofNat 64 c.toNat)) w := by
  have hc := c.toNat_lt
  simp [convert, run_underlying Try.underlying5, run_underlying Try.underlying107, Conv.intToInt, V64, wrap_u64_nat]
@[go_sem high] theorem run_conv_low64 (x : BitVec 64) (w : World) : (convert 107 5 (V64 x)).run Try.prog w = .ok (.int .u8 ((UInt8.ofNat x.toNat).toNat : Int)) w := by
  simp [convert, run_underlying Try.underlying5, run_underlying Try.underlying107, Conv.intToInt, V64, IntKind.wrap, IntKind.bits, IntKind.signed]
end Go.Proofs.Ytkcmacglomdfcaa
