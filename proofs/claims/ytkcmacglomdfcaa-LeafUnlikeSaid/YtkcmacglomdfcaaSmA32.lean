/-
  WORDS OF 32 BITS as values, and Go's operations on them.
-/
import Derived.Test.YtkcmacglomdfcaaNum
import Derived.WalkSpells
namespace Go.Proofs.Ytkcmacglomdfcaa
open Go.RowKit

/-- A word. -/
def V32 (x : BitVec 32) : Value := .int .u32 (x.toNat : Int)
theorem V32_lit (n : Nat) : Value.int .u32 ((BitVec.ofNat 32 n).toNat : Int) = V32 (BitVec.ofNat 32 n) := rfl
@[go_sem ↓, simp high] theorem V32_cells (x : BitVec 32) : (V32 x).cells = #[V32 x] := rfl
@[go_sem ↓, simp high] theorem V32_one (x : BitVec 32) : (V32 x).oneCell' = true := rfl
@[go_sem] theorem run_store_w32 {P : Program} (w : World) (a : Addr) (m : Mode) (x : BitVec 32) : (store a (V32 x) m).run P w = stored P w a (V32 x) m := run_store P w a _ m rfl
@[go_sem] theorem run_storeCells_w32 {P : Program} (w : World) (b o : Nat) (x : BitVec 32) : (storeCells ⟨b, o, none⟩ [V32 x]).run P w = stored P w ⟨b, o, none⟩ (V32 x) .plain := by
  simp only [storeCells, Sem.run_bind, Addr.add_mid, Nat.add_zero, run_store_w32]
  cases stored P w ⟨b, o, none⟩ (V32 x) .plain with
  | ok u w' => simp [Result.andThen]
  | halt u w' => rfl
theorem V32_zero : V32 0#32 = .int .u32 0 := rfl
theorem wrap_u32_nat (n : Nat) : IntKind.u32.wrap (n : Int) = ((n % 4294967296 : Nat) : Int) := by
  simp [IntKind.wrap, IntKind.bits, IntKind.signed]
theorem bv32_int (x : BitVec 32) : BitVec.ofInt 32 (x.toNat : Int) = x := by
  rw [BitVec.ofInt_natCast, BitVec.ofNat_toNat, BitVec.setWidth_eq]
theorem back32 (x : BitVec 32) : Value.int .u32 (IntKind.u32.wrap ((x.toNat : Nat) : Int)) = V32 x := by
  rw [wrap_u32_nat, Nat.mod_eq_of_lt x.isLt]
  rfl
@[go_sem] theorem binOp_add32 (t : TypeId) (x y : BitVec 32) : binOp .add t (V32 x) (V32 y) = pure (V32 (x + y)) := by
  simp only [V32, binOp, Op.intArith, ne_eq, not_true_eq_false, if_false]
  rw [← Int.natCast_add, wrap_u32_nat, BitVec.toNat_add]
@[go_sem] theorem binOp_and32 (t : TypeId) (x y : BitVec 32) : binOp .and t (V32 x) (V32 y) = pure (V32 (x &&& y)) := by
  simp only [V32, binOp, Op.intBits, ne_eq, not_true_eq_false, if_false]
  show pure (Value.int .u32 (IntKind.u32.wrap ((BitVec.ofInt 32 (x.toNat : Int) &&& BitVec.ofInt 32 (y.toNat : Int)).toNat : Int))) = _
  rw [bv32_int, bv32_int, back32]
  rfl
@[go_sem] theorem binOp_or32 (t : TypeId) (x y : BitVec 32) : binOp .or t (V32 x) (V32 y) = pure (V32 (x ||| y)) := by
  simp only [V32, binOp, Op.intBits, ne_eq, not_true_eq_false, if_false]
  show pure (Value.int .u32 (IntKind.u32.wrap ((BitVec.ofInt 32 (x.toNat : Int) ||| BitVec.ofInt 32 (y.toNat : Int)).toNat : Int))) = _
  rw [bv32_int, bv32_int, back32]
  rfl
@[go_sem] theorem binOp_xor32 (t : TypeId) (x y : BitVec 32) : binOp .xor t (V32 x) (V32 y) = pure (V32 (x ^^^ y)) := by
  simp only [V32, binOp, Op.intBits, ne_eq, not_true_eq_false, if_false]
  show pure (Value.int .u32 (IntKind.u32.wrap ((BitVec.ofInt 32 (x.toNat : Int) ^^^ BitVec.ofInt 32 (y.toNat : Int)).toNat : Int))) = _
  rw [bv32_int, bv32_int, back32]
  rfl
/-- Shifts by less than a word. -/
theorem binOp_shr32 (t : TypeId) (k : IntKind) (x : BitVec 32) (n : Nat) (m : Int) (hm : m = (n : Int)) (hn : n ≤ 32) : binOp .shr t (V32 x) (.int k m) = pure (V32 (x >>> n)) := by
  subst hm
  simp only [V32, binOp, Op.shift]
  rw [if_neg (by omega), Int.toNat_natCast, Nat.min_eq_left (show n ≤ IntKind.u32.bits from hn), BitVec.toNat_ushiftRight, Nat.shiftRight_eq_div_pow]
  congr 2
  rw [show ((2 : Int) ^ n) = ((2 ^ n : Nat) : Int) by simp, Int.fdiv_eq_ediv_of_nonneg _ (Int.natCast_nonneg _), ← Int.natCast_ediv]
theorem binOp_shl32 (t : TypeId) (k : IntKind) (x : BitVec 32) (n : Nat) (m : Int) (hm : m = (n : Int)) (hn : n ≤ 32) : binOp .shl t (V32 x) (.int k m) = pure (V32 (x <<< n)) := by
  subst hm
  simp only [V32, binOp, Op.shift]
  rw [if_neg (by omega), Int.toNat_natCast, Nat.min_eq_left (show n ≤ IntKind.u32.bits from hn), BitVec.toNat_shiftLeft, Nat.shiftLeft_eq]
  rw [show ((2 : Int) ^ n) = ((2 ^ n : Nat) : Int) by simp, ← Int.natCast_mul, wrap_u32_nat]
@[go_sem] theorem binOp_shl_lit32 (t : TypeId) (k : IntKind) (x : BitVec 32) : binOp .shl t (V32 x) (.int k 8) = pure (V32 (x <<< 8)) := binOp_shl32 t k x 8 8 rfl (by decide)
@[go_sem] theorem unary_xor32 (x : BitVec 32) : Op.unary .xor (V32 x) = pure (V32 (~~~ x)) := by
  simp only [V32, Op.unary, Op.intBits]
  show pure (Value.int .u32 (IntKind.u32.wrap ((BitVec.ofInt 32 IntKind.u32.max ^^^ BitVec.ofInt 32 (x.toNat : Int)).toNat : Int))) = _
  rw [show BitVec.ofInt 32 IntKind.u32.max = BitVec.allOnes 32 by decide, bv32_int, BitVec.allOnes_xor, back32]
  rfl
@[go_sem] theorem binOp_not32 (t : TypeId) (x : BitVec 32) : binOp .sub t (.int .u32 4294967295) (V32 x) = pure (V32 (~~~ x)) := by
  simp only [V32, binOp, Op.intArith, ne_eq, not_true_eq_false, if_false]
  have h := x.isLt
  rw [show (4294967295 : Int) - (x.toNat : Int) = ((4294967295 - x.toNat : Nat) : Int) by omega, wrap_u32_nat, BitVec.toNat_not, Nat.mod_eq_of_lt (by omega)]
@[go_sem] theorem binOp_mul32 (t : TypeId) (x : BitVec 32) : binOp .mul t (V32 x) (.int .u32 256) = pure (V32 (x * 256#32)) := by
  simp only [V32, binOp, Op.intArith, ne_eq, not_true_eq_false, if_false]
  rw [show (x.toNat : Int) * 256 = ((x.toNat * 256 : Nat) : Int) by omega, wrap_u32_nat, BitVec.toNat_mul]
  rfl
/-- A byte as a word, and a word's lowest byte. -/
@[go_sem high] theorem run_conv_byte32 (c : UInt8) (w : World) : (convert 5 101 (.int .u8 (c.toNat : Int))).run Try.prog w = .ok (V32 (BitVec.ofNat 32 c.toNat)) w := by
  have hc := c.toNat_lt
  simp [convert, run_underlying Try.underlying5, run_underlying Try.underlying101, Conv.intToInt, V32, wrap_u32_nat]
@[go_sem high] theorem run_conv_low32 (x : BitVec 32) (w : World) : (convert 101 5 (V32 x)).run Try.prog w = .ok (.int .u8 ((UInt8.ofNat x.toNat).toNat : Int)) w := by
  simp [convert, run_underlying Try.underlying5, run_underlying Try.underlying101, Conv.intToInt, V32, IntKind.wrap, IntKind.bits, IntKind.signed]
end Go.Proofs.Ytkcmacglomdfcaa
