/-
  WORDS OF 32 BITS as values, and Go's operations on them.
-/
import Derived.Test.YtkcmacglomdfcaaNum
import Derived.WalkSpells
import Derived.Deep.QuietTactic
import Derived.BigQuiet
import Derived.WalkSmall
import Derived.Deep.RegionHeld3
import Derived.Test.YtkcmacglomdfcaaChunk
namespace Go.Proofs.Ytkcmacglomdfcaa
open Go.RowKit

/-- A word. -/
def V32 (x : BitVec 32) : Value := .int .u32 (x.toNat : Int)
theorem V32_lit (n : Nat) : Value.int .u32 ((BitVec.ofNat 32 n).toNat : Int) = V32 (BitVec.ofNat 32 n) := rfl
@[go_sem ↓, simp high] theorem V32_cells (x : BitVec 32) : (V32 x).cells = #[V32 x] := rfl
@[go_sem ↓, simp high] theorem V32_one (x : BitVec 32) : (V32 x).oneCell' = true := rfl
@[go_sem] theorem run_store_w32 {P : Program} (w : World) (a : Addr) (m : Mode) (x : BitVec 32) : (store a (V32 x) m).run P w = stored P w a (V32 x) m := run_store P w a _ m rfl
@[go_sem] theorem run_storeCells_w32 {P : Program} (w : World) (b o : Nat) (x : BitVec 32) : (storeCells ⟨b, o, none⟩ [V32 x]).run P w = stored P w ⟨b, o, none⟩ (V32 x) .plain := by
  simp only [storeCells, Sem.run_bind, Addr.add_mid, Nat.add_zero, run_store_w32]
  cases stored P w ⟨b, o, none⟩ (V32 x) .plain with
  | ok u w' => simp [Result.andThen]
  | halt u w' => rfl
theorem V32_zero : V32 0#32 = .int .u32 0 := rfl
theorem wrap_u32_nat (n : Nat) : IntKind.u32.wrap (n : Int) = ((n % 4294967296 : Nat) : Int) := by
  simp [IntKind.wrap, IntKind.bits, IntKind.signed]
theorem bv32_int (x : BitVec 32) : BitVec.ofInt 32 (x.toNat : Int) = x := by
  rw [BitVec.ofInt_natCast, BitVec.ofNat_toNat, BitVec.setWidth_eq]
theorem back32 (x : BitVec 32) : Value.int .u32 (IntKind.u32.wrap ((x.toNat : Nat) : Int)) = V32 x := by
  rw [wrap_u32_nat, Nat.mod_eq_of_lt x.isLt]
  rfl
@[go_sem] theorem binOp_add32 (t : TypeId) (x y : BitVec 32) : binOp .add t (V32 x) (V32 y) = pure (V32 (x + y)) := by
  simp only [V32, binOp, Op.intArith, ne_eq, not_true_eq_false, if_false]
  rw [← Int.natCast_add, wrap_u32_nat, BitVec.toNat_add]
@[go_sem] theorem binOp_and32 (t : TypeId) (x y : BitVec 32) : binOp .and t (V32 x) (V32 y) = pure (V32 (x &&& y)) := by
  simp only [V32, binOp, Op.intBits, ne_eq, not_true_eq_false, if_false]
  show pure (Value.int .u32 (IntKind.u32.wrap ((BitVec.ofInt 32 (x.toNat : Int) &&& BitVec.ofInt 32 (y.toNat : Int)).toNat : Int))) = _
  rw [bv32_int, bv32_int, back32]
  rfl
@[go_sem] theorem binOp_or32 (t : TypeId) (x y : BitVec 32) : binOp .or t (V32 x) (V32 y) = pure (V32 (x ||| y)) := by
  simp only [V32, binOp, Op.intBits, ne_eq, not_true_eq_false, if_false]
  show pure (Value.int .u32 (IntKind.u32.wrap ((BitVec.ofInt 32 (x.toNat : Int) ||| BitVec.ofInt 32 (y.toNat : Int)).toNat : Int))) = _
  rw [bv32_int, bv32_int, back32]
  rfl
@[go_sem] theorem binOp_xor32 (t : TypeId) (x y : BitVec 32) : binOp .xor t (V32 x) (V32 y) = pure (V32 (x ^^^ y)) := by
  simp only [V32, binOp, Op.intBits, ne_eq, not_true_eq_false, if_false]
  show pure (Value.int .u32 (IntKind.u32.wrap ((BitVec.ofInt 32 (x.toNat : Int) ^^^ BitVec.ofInt 32 (y.toNat : Int)).toNat : Int))) = _
  rw [bv32_int, bv32_int, back32]
  rfl
/-- Shifts by less than a word. -/
theorem binOp_shr32 (t : TypeId) (k : IntKind) (x : BitVec 32) (n : Nat) (m : Int) (hm : m = (n : Int)) (hn : n ≤ 32) : binOp .shr t (V32 x) (.int k m) = pure (V32 (x >>> n)) := by
  subst hm
  simp only [V32, binOp, Op.shift]
  rw [if_neg (by omega), Int.toNat_natCast, Nat.min_eq_left (show n ≤ IntKind.u32.bits from hn), BitVec.toNat_ushiftRight, Nat.shiftRight_eq_div_pow]
  congr 2
  rw [show ((2 : Int) ^ n) = ((2 ^ n : Nat) : Int) by simp, Int.fdiv_eq_ediv_of_nonneg _ (Int.natCast_nonneg _), ← Int.natCast_ediv]
theorem binOp_shl32 (t : TypeId) (k : IntKind) (x : BitVec 32) (n : Nat) (m : Int) (hm : m = (n : Int)) (hn : n ≤ 32) : binOp .shl t (V32 x) (.int k m) = pure (V32 (x <<< n)) := by
  subst hm
  simp only [V32, binOp, Op.shift]
  rw [if_neg (by omega), Int.toNat_natCast, Nat.min_eq_left (show n ≤ IntKind.u32.bits from hn), BitVec.toNat_shiftLeft, Nat.shiftLeft_eq]
  rw [show ((2 : Int) ^ n) = ((2 ^ n : Nat) : Int) by simp, ← Int.natCast_mul, wrap_u32_nat]
@[go_sem] theorem binOp_shl_lit32 (t : TypeId) (k : IntKind) (x : BitVec 32) : binOp .shl t (V32 x) (.int k 8) = pure (V32 (x <<< 8)) := binOp_shl32 t k x 8 8 rfl (by decide)
@[go_sem] theorem unary_xor32 (x : BitVec 32) : Op.unary .xor (V32 x) = pure (V32 (~~~ x)) := by
  simp only [V32, Op.unary, Op.intBits]
  show pure (Value.int .u32 (IntKind.u32.wrap ((BitVec.ofInt 32 IntKind.u32.max ^^^ BitVec.ofInt 32 (x.toNat : Int)).toNat : Int))) = _
  rw [show BitVec.ofInt 32 IntKind.u32.max = BitVec.allOnes 32 by decide, bv32_int, BitVec.allOnes_xor, back32]
  rfl
@[go_sem] theorem binOp_not32 (t : TypeId) (x : BitVec 32) : binOp .sub t (.int .u32 4294967295) (V32 x) = pure (V32 (~~~ x)) := by
  simp only [V32, binOp, Op.intArith, ne_eq, not_true_eq_false, if_false]
  have h := x.isLt
  rw [show (4294967295 : Int) - (x.toNat : Int) = ((4294967295 - x.toNat : Nat) : Int) by omega, wrap_u32_nat, BitVec.toNat_not, Nat.mod_eq_of_lt (by omega)]
@[go_sem] theorem binOp_mul32 (t : TypeId) (x : BitVec 32) : binOp .mul t (V32 x) (.int .u32 256) = pure (V32 (x * 256#32)) := by
  simp only [V32, binOp, Op.intArith, ne_eq, not_true_eq_false, if_false]
  rw [show (x.toNat : Int) * 256 = ((x.toNat * 256 : Nat) : Int) by omega, wrap_u32_nat, BitVec.toNat_mul]
  rfl
/-- A byte as a word, and a word's lowest byte. -/
@[go_sem high] theorem run_conv_byte32 (c : UInt8) (w : World) : (convert 5 101 (.int .u8 (c.toNat : Int))).run Try.prog w = .ok (V32 (BitVec.ofNat 32 c.toNat)) w := by
  have hc := c.toNat_lt
  simp [convert, run_underlying Try.underlying5, run_underlying Try.underlying101, Conv.intToInt, V32, wrap_u32_nat]
@[go_sem high] theorem run_conv_low32 (x : BitVec 32) (w : World) : (convert 101 5 (V32 x)).run Try.prog w = .ok (.int .u8 ((UInt8.ofNat x.toNat).toNat : Int)) w := by
  simp [convert, run_underlying Try.underlying5, run_underlying Try.underlying101, Conv.intToInt, V32, IntKind.wrap, IntKind.bits, IntKind.signed]
end Go.Proofs.Ytkcmacglomdfcaa

/-
  THE WALKS of turn and mix: words turned, and put together (words of 32 bits).
-/
namespace Go.Proofs.Ytkcmacglomdfcaa
open Go.RowKit

def rot32 (x : BitVec 32) (n : Nat) : BitVec 32 := x >>> n ||| x <<< (32 - n)

theorem turn32_any (w : World) (b : Nat) (x : BitVec 32) (n : Nat) (hn : n ≤ 32) (hb : w.cell? ⟨b, 0, none⟩ = some (.int .i64 32)) :
    Calls Try.prog 112 #[.pointer (some ⟨b, 0, none⟩), V32 x, .int .i64 (n : Int)] w fun e w' => e = .returned (V32 (rot32 x n)) ∧ ∃ m, w' = w.drewN m := by
  have h1 := fun t k => binOp_shr32 t k x n (n : Int) rfl hn
  have h2 := fun t k => binOp_shl32 t k x (32 - n) (32 - (n : Int)) (by omega) (by omega)
  go_enter Try.func112, Try.ntmps112
  go_wp2_with fail
  go_quiet (fail)
  go_wp2
  go_ret
  exact ⟨rfl, _, rfl⟩
theorem turn32_lit (w : World) (b : Nat) (x : BitVec 32) (n : Nat) (m : Int) (hm : m = (n : Int)) (hn : n ≤ 32) (hb : w.cell? ⟨b, 0, none⟩ = some (.int .i64 32)) :
    Calls Try.prog 112 #[.pointer (some ⟨b, 0, none⟩), V32 x, .int .i64 m] w fun e w' => e = .returned (V32 (rot32 x n)) ∧ ∃ m, w' = w.drewN m := by
  subst hm
  exact turn32_any w b x n hn hb
def mx320 (x : BitVec 32) : BitVec 32 := rot32 x 2 ^^^ rot32 x 13 ^^^ rot32 x 22
theorem mix32_0 (w : World) (b : Nat) (x : BitVec 32) (hb : w.cell? ⟨b, 0, none⟩ = some (.int .i64 32)) (k0 : w.cell? ⟨b, 10, none⟩ = some (.int .i64 2)) (k1 : w.cell? ⟨b, 11, none⟩ = some (.int .i64 13)) (k2 : w.cell? ⟨b, 12, none⟩ = some (.int .i64 22)) :
    Calls Try.prog 109 #[.pointer (some ⟨b, 0, none⟩), V32 x, .int .i64 0] w fun e w' => e = .returned (V32 (mx320 x)) ∧ Below w.heap.size w w' := by
  have hlt : b < w.heap.size := World.block_lt_of_cell? w ⟨b, 0, none⟩ hb
  have hsh := fun t k => binOp_shr32 t k x 22 22 rfl (by decide)
  go_enter Try.func109, Try.ntmps109
  go_wp2_with fail
  refine (turn32_lit _ b x 22 22 rfl (by decide) ((World.cell?_alloc_past _ b 0 hlt).trans hb)).mono ?_
  rintro e w1 ⟨rfl, m1, hw1⟩
  have hB1 : Below w.heap.size w w1 := by rw [hw1]; exact below_drewN ((Below.refl w.heap.size w).alloc (Nat.le_refl _) _) m1
  have hb1 : w1.cell? ⟨b, 0, none⟩ = some (.int .i64 32) := (hB1.cell (p := ⟨b, 0, none⟩) hlt).trans hb
  have f : ∀ i v, (#[Value.int .i64 2, .int .i64 13, .int .i64 22])[i]? = some v → w1.cell? ⟨w.heap.size, i, none⟩ = some v := by
    intro i v hv
    rw [hw1]
    exact (World.cell?_alloc_at _ _ _ _ rfl).trans hv
  have f0 := f 0 _ rfl
  have f1 := f 1 _ rfl
  have f2 := f 2 _ rfl
  clear f hw1
  have S0 : ∀ w', Below w1.heap.size w1 w' → w'.cell? ⟨w.heap.size, 0, none⟩ = some (.int .i64 2) ∧ w'.cell? ⟨w.heap.size, 1, none⟩ = some (.int .i64 13) ∧ Below w1.heap.size w1 w' := fun w' hb' =>
    ⟨(hb'.cell (p := ⟨w.heap.size, 0, none⟩) (World.block_lt_of_cell? w1 _ f0)).trans f0, (hb'.cell (p := ⟨w.heap.size, 1, none⟩) (World.block_lt_of_cell? w1 _ f1)).trans f1, hb'⟩
  have C : ∀ wx (m : Int), Below w1.heap.size w1 wx → 0 ≤ m → m ≤ 32 → Calls Try.prog 112 #[.pointer (some ⟨b, 0, none⟩), V32 x, .int .i64 m] wx fun e w' => e = .returned (V32 (rot32 x m.toNat)) ∧ w'.cell? ⟨w.heap.size, 0, none⟩ = some (.int .i64 2) ∧ w'.cell? ⟨w.heap.size, 1, none⟩ = some (.int .i64 13) ∧ Below w1.heap.size w1 w' := fun wx m hb' hm hn =>
    (turn32_lit wx b x m.toNat m (by omega) (by omega) ((hb'.cell (p := ⟨b, 0, none⟩) (World.block_lt_of_cell? w1 _ hb1)).trans hb1)).mono fun e w' ⟨h1, k, h2⟩ => ⟨h1, S0 w' (by rw [h2]; exact below_drewN hb' k)⟩
  have HC := Lib.hid C
  have HS := Lib.hid S0
  clear C S0
  go_wp2_with fail
  go_region_held3 (fun w' => w'.cell? ⟨w.heap.size, 0, none⟩ = some (.int .i64 2) ∧ w'.cell? ⟨w.heap.size, 1, none⟩ = some (.int .i64 13) ∧ Below w1.heap.size w1 w') (first | exact HS.out _ (below_drewN (Below.refl _ _) 1) | assumption)
    (first | (go_at_call 112; refine (HC.out _ _ (And.right (And.right (by assumption))) (by decide) (by decide)).mono ?_; rintro e w' ⟨rfl, hs⟩))
  all_goals
    go_wp2
    go_ret
    refine ⟨?_, hB1.trans (hs.2.2.mono hB1.size)⟩
    unfold mx320
    rfl
def mx321 (x : BitVec 32) : BitVec 32 := rot32 x 6 ^^^ rot32 x 11 ^^^ rot32 x 25
theorem mix32_1 (w : World) (b : Nat) (x : BitVec 32) (hb : w.cell? ⟨b, 0, none⟩ = some (.int .i64 32)) (k0 : w.cell? ⟨b, 13, none⟩ = some (.int .i64 6)) (k1 : w.cell? ⟨b, 14, none⟩ = some (.int .i64 11)) (k2 : w.cell? ⟨b, 15, none⟩ = some (.int .i64 25)) :
    Calls Try.prog 109 #[.pointer (some ⟨b, 0, none⟩), V32 x, .int .i64 1] w fun e w' => e = .returned (V32 (mx321 x)) ∧ Below w.heap.size w w' := by
  have hlt : b < w.heap.size := World.block_lt_of_cell? w ⟨b, 0, none⟩ hb
  have hsh := fun t k => binOp_shr32 t k x 25 25 rfl (by decide)
  go_enter Try.func109, Try.ntmps109
  go_wp2_with fail
  refine (turn32_lit _ b x 25 25 rfl (by decide) ((World.cell?_alloc_past _ b 0 hlt).trans hb)).mono ?_
  rintro e w1 ⟨rfl, m1, hw1⟩
  have hB1 : Below w.heap.size w w1 := by rw [hw1]; exact below_drewN ((Below.refl w.heap.size w).alloc (Nat.le_refl _) _) m1
  have hb1 : w1.cell? ⟨b, 0, none⟩ = some (.int .i64 32) := (hB1.cell (p := ⟨b, 0, none⟩) hlt).trans hb
  have f : ∀ i v, (#[Value.int .i64 6, .int .i64 11, .int .i64 25])[i]? = some v → w1.cell? ⟨w.heap.size, i, none⟩ = some v := by
    intro i v hv
    rw [hw1]
    exact (World.cell?_alloc_at _ _ _ _ rfl).trans hv
  have f0 := f 0 _ rfl
  have f1 := f 1 _ rfl
  have f2 := f 2 _ rfl
  clear f hw1
  have S0 : ∀ w', Below w1.heap.size w1 w' → w'.cell? ⟨w.heap.size, 0, none⟩ = some (.int .i64 6) ∧ w'.cell? ⟨w.heap.size, 1, none⟩ = some (.int .i64 11) ∧ Below w1.heap.size w1 w' := fun w' hb' =>
    ⟨(hb'.cell (p := ⟨w.heap.size, 0, none⟩) (World.block_lt_of_cell? w1 _ f0)).trans f0, (hb'.cell (p := ⟨w.heap.size, 1, none⟩) (World.block_lt_of_cell? w1 _ f1)).trans f1, hb'⟩
  have C : ∀ wx (m : Int), Below w1.heap.size w1 wx → 0 ≤ m → m ≤ 32 → Calls Try.prog 112 #[.pointer (some ⟨b, 0, none⟩), V32 x, .int .i64 m] wx fun e w' => e = .returned (V32 (rot32 x m.toNat)) ∧ w'.cell? ⟨w.heap.size, 0, none⟩ = some (.int .i64 6) ∧ w'.cell? ⟨w.heap.size, 1, none⟩ = some (.int .i64 11) ∧ Below w1.heap.size w1 w' := fun wx m hb' hm hn =>
    (turn32_lit wx b x m.toNat m (by omega) (by omega) ((hb'.cell (p := ⟨b, 0, none⟩) (World.block_lt_of_cell? w1 _ hb1)).trans hb1)).mono fun e w' ⟨h1, k, h2⟩ => ⟨h1, S0 w' (by rw [h2]; exact below_drewN hb' k)⟩
  have HC := Lib.hid C
  have HS := Lib.hid S0
  clear C S0
  go_wp2_with fail
  go_region_held3 (fun w' => w'.cell? ⟨w.heap.size, 0, none⟩ = some (.int .i64 6) ∧ w'.cell? ⟨w.heap.size, 1, none⟩ = some (.int .i64 11) ∧ Below w1.heap.size w1 w') (first | exact HS.out _ (below_drewN (Below.refl _ _) 1) | assumption)
    (first | (go_at_call 112; refine (HC.out _ _ (And.right (And.right (by assumption))) (by decide) (by decide)).mono ?_; rintro e w' ⟨rfl, hs⟩))
  all_goals
    go_wp2
    go_ret
    refine ⟨?_, hB1.trans (hs.2.2.mono hB1.size)⟩
    unfold mx321
    rfl
def mx322 (x : BitVec 32) : BitVec 32 := rot32 x 7 ^^^ rot32 x 18 ^^^ x >>> 3
theorem mix32_2 (w : World) (b : Nat) (x : BitVec 32) (hb : w.cell? ⟨b, 0, none⟩ = some (.int .i64 32)) (k0 : w.cell? ⟨b, 16, none⟩ = some (.int .i64 7)) (k1 : w.cell? ⟨b, 17, none⟩ = some (.int .i64 18)) (k2 : w.cell? ⟨b, 18, none⟩ = some (.int .i64 3)) :
    Calls Try.prog 109 #[.pointer (some ⟨b, 0, none⟩), V32 x, .int .i64 2] w fun e w' => e = .returned (V32 (mx322 x)) ∧ Below w.heap.size w w' := by
  have hlt : b < w.heap.size := World.block_lt_of_cell? w ⟨b, 0, none⟩ hb
  have hsh := fun t k => binOp_shr32 t k x 3 3 rfl (by decide)
  go_enter Try.func109, Try.ntmps109
  go_wp2_with fail
  refine (turn32_lit _ b x 3 3 rfl (by decide) ((World.cell?_alloc_past _ b 0 hlt).trans hb)).mono ?_
  rintro e w1 ⟨rfl, m1, hw1⟩
  have hB1 : Below w.heap.size w w1 := by rw [hw1]; exact below_drewN ((Below.refl w.heap.size w).alloc (Nat.le_refl _) _) m1
  have hb1 : w1.cell? ⟨b, 0, none⟩ = some (.int .i64 32) := (hB1.cell (p := ⟨b, 0, none⟩) hlt).trans hb
  have f : ∀ i v, (#[Value.int .i64 7, .int .i64 18, .int .i64 3])[i]? = some v → w1.cell? ⟨w.heap.size, i, none⟩ = some v := by
    intro i v hv
    rw [hw1]
    exact (World.cell?_alloc_at _ _ _ _ rfl).trans hv
  have f0 := f 0 _ rfl
  have f1 := f 1 _ rfl
  have f2 := f 2 _ rfl
  clear f hw1
  have S0 : ∀ w', Below w1.heap.size w1 w' → w'.cell? ⟨w.heap.size, 0, none⟩ = some (.int .i64 7) ∧ w'.cell? ⟨w.heap.size, 1, none⟩ = some (.int .i64 18) ∧ Below w1.heap.size w1 w' := fun w' hb' =>
    ⟨(hb'.cell (p := ⟨w.heap.size, 0, none⟩) (World.block_lt_of_cell? w1 _ f0)).trans f0, (hb'.cell (p := ⟨w.heap.size, 1, none⟩) (World.block_lt_of_cell? w1 _ f1)).trans f1, hb'⟩
  have C : ∀ wx (m : Int), Below w1.heap.size w1 wx → 0 ≤ m → m ≤ 32 → Calls Try.prog 112 #[.pointer (some ⟨b, 0, none⟩), V32 x, .int .i64 m] wx fun e w' => e = .returned (V32 (rot32 x m.toNat)) ∧ w'.cell? ⟨w.heap.size, 0, none⟩ = some (.int .i64 7) ∧ w'.cell? ⟨w.heap.size, 1, none⟩ = some (.int .i64 18) ∧ Below w1.heap.size w1 w' := fun wx m hb' hm hn =>
    (turn32_lit wx b x m.toNat m (by omega) (by omega) ((hb'.cell (p := ⟨b, 0, none⟩) (World.block_lt_of_cell? w1 _ hb1)).trans hb1)).mono fun e w' ⟨h1, k, h2⟩ => ⟨h1, S0 w' (by rw [h2]; exact below_drewN hb' k)⟩
  have HC := Lib.hid C
  have HS := Lib.hid S0
  clear C S0
  go_wp2_with fail
  go_region_held3 (fun w' => w'.cell? ⟨w.heap.size, 0, none⟩ = some (.int .i64 7) ∧ w'.cell? ⟨w.heap.size, 1, none⟩ = some (.int .i64 18) ∧ Below w1.heap.size w1 w') (first | exact HS.out _ (below_drewN (Below.refl _ _) 1) | assumption)
    (first | (go_at_call 112; refine (HC.out _ _ (And.right (And.right (by assumption))) (by decide) (by decide)).mono ?_; rintro e w' ⟨rfl, hs⟩))
  all_goals
    go_wp2
    go_ret
    refine ⟨?_, hB1.trans (hs.2.2.mono hB1.size)⟩
    unfold mx322
    rfl
def mx323 (x : BitVec 32) : BitVec 32 := rot32 x 17 ^^^ rot32 x 19 ^^^ x >>> 10
theorem mix32_3 (w : World) (b : Nat) (x : BitVec 32) (hb : w.cell? ⟨b, 0, none⟩ = some (.int .i64 32)) (k0 : w.cell? ⟨b, 19, none⟩ = some (.int .i64 17)) (k1 : w.cell? ⟨b, 20, none⟩ = some (.int .i64 19)) (k2 : w.cell? ⟨b, 21, none⟩ = some (.int .i64 10)) :
    Calls Try.prog 109 #[.pointer (some ⟨b, 0, none⟩), V32 x, .int .i64 3] w fun e w' => e = .returned (V32 (mx323 x)) ∧ Below w.heap.size w w' := by
  have hlt : b < w.heap.size := World.block_lt_of_cell? w ⟨b, 0, none⟩ hb
  have hsh := fun t k => binOp_shr32 t k x 10 10 rfl (by decide)
  go_enter Try.func109, Try.ntmps109
  go_wp2_with fail
  refine (turn32_lit _ b x 10 10 rfl (by decide) ((World.cell?_alloc_past _ b 0 hlt).trans hb)).mono ?_
  rintro e w1 ⟨rfl, m1, hw1⟩
  have hB1 : Below w.heap.size w w1 := by rw [hw1]; exact below_drewN ((Below.refl w.heap.size w).alloc (Nat.le_refl _) _) m1
  have hb1 : w1.cell? ⟨b, 0, none⟩ = some (.int .i64 32) := (hB1.cell (p := ⟨b, 0, none⟩) hlt).trans hb
  have f : ∀ i v, (#[Value.int .i64 17, .int .i64 19, .int .i64 10])[i]? = some v → w1.cell? ⟨w.heap.size, i, none⟩ = some v := by
    intro i v hv
    rw [hw1]
    exact (World.cell?_alloc_at _ _ _ _ rfl).trans hv
  have f0 := f 0 _ rfl
  have f1 := f 1 _ rfl
  have f2 := f 2 _ rfl
  clear f hw1
  have S0 : ∀ w', Below w1.heap.size w1 w' → w'.cell? ⟨w.heap.size, 0, none⟩ = some (.int .i64 17) ∧ w'.cell? ⟨w.heap.size, 1, none⟩ = some (.int .i64 19) ∧ Below w1.heap.size w1 w' := fun w' hb' =>
    ⟨(hb'.cell (p := ⟨w.heap.size, 0, none⟩) (World.block_lt_of_cell? w1 _ f0)).trans f0, (hb'.cell (p := ⟨w.heap.size, 1, none⟩) (World.block_lt_of_cell? w1 _ f1)).trans f1, hb'⟩
  have C : ∀ wx (m : Int), Below w1.heap.size w1 wx → 0 ≤ m → m ≤ 32 → Calls Try.prog 112 #[.pointer (some ⟨b, 0, none⟩), V32 x, .int .i64 m] wx fun e w' => e = .returned (V32 (rot32 x m.toNat)) ∧ w'.cell? ⟨w.heap.size, 0, none⟩ = some (.int .i64 17) ∧ w'.cell? ⟨w.heap.size, 1, none⟩ = some (.int .i64 19) ∧ Below w1.heap.size w1 w' := fun wx m hb' hm hn =>
    (turn32_lit wx b x m.toNat m (by omega) (by omega) ((hb'.cell (p := ⟨b, 0, none⟩) (World.block_lt_of_cell? w1 _ hb1)).trans hb1)).mono fun e w' ⟨h1, k, h2⟩ => ⟨h1, S0 w' (by rw [h2]; exact below_drewN hb' k)⟩
  have HC := Lib.hid C
  have HS := Lib.hid S0
  clear C S0
  go_wp2_with fail
  go_region_held3 (fun w' => w'.cell? ⟨w.heap.size, 0, none⟩ = some (.int .i64 17) ∧ w'.cell? ⟨w.heap.size, 1, none⟩ = some (.int .i64 19) ∧ Below w1.heap.size w1 w') (first | exact HS.out _ (below_drewN (Below.refl _ _) 1) | assumption)
    (first | (go_at_call 112; refine (HC.out _ _ (And.right (And.right (by assumption))) (by decide) (by decide)).mono ?_; rintro e w' ⟨rfl, hs⟩))
  all_goals
    go_wp2
    go_ret
    refine ⟨?_, hB1.trans (hs.2.2.mono hB1.size)⟩
    unfold mx323
    rfl
end Go.Proofs.Ytkcmacglomdfcaa

/-
  A PIECE, plainly (words of 32 bits).
-/
namespace Go.Proofs.Ytkcmacglomdfcaa

/-- Bytes as a word, the first one the highest. -/
def be32 (l : List UInt8) : BitVec 32 := l.foldl (fun x c => x <<< 8 ||| BitVec.ofNat 32 c.toNat) 0
theorem be32_snoc (l : List UInt8) (c : UInt8) : be32 (l ++ [c]) = be32 l <<< 8 ||| BitVec.ofNat 32 c.toNat := by simp [be32]
/-- The words of a piece. -/
def words32 (p : List UInt8) : List (BitVec 32) := (List.range 16).map fun k => be32 (chunkOf p 4 k)
/-- One word more. -/
def nextW32 (w : List (BitVec 32)) : BitVec 32 := mx323 (w.getD (w.length - 2) 0) + w.getD (w.length - 7) 0 + mx322 (w.getD (w.length - 15) 0) + w.getD (w.length - 16) 0
def sched32 (w : List (BitVec 32)) : Nat → List (BitVec 32)
  | 0 => w
  | k + 1 => sched32 w k ++ [nextW32 (sched32 w k)]
theorem sched32_len (w : List (BitVec 32)) (k : Nat) : (sched32 w k).length = w.length + k := by
  induction k with
  | zero => rfl
  | succ k ih => simp [sched32, ih]; omega
structure St32 where
  a : BitVec 32
  b : BitVec 32
  c : BitVec 32
  d : BitVec 32
  e : BitVec 32
  f : BitVec 32
  g : BitVec 32
  h : BitVec 32
def rnd32 (s : St32) (k w : BitVec 32) : St32 :=
  { a := (s.h + mx321 s.e + (s.e &&& s.f ||| ~~~ s.e &&& s.g) + k + w) + (mx320 s.a + (s.a &&& s.b ||| s.a &&& s.c ||| s.b &&& s.c)), b := s.a, c := s.b, d := s.c,
    e := s.d + (s.h + mx321 s.e + (s.e &&& s.f ||| ~~~ s.e &&& s.g) + k + w), f := s.e, g := s.f, h := s.g }
def rnds32 (K W : List (BitVec 32)) (s : St32) : Nat → St32
  | 0 => s
  | j + 1 => rnd32 (rnds32 K W s j) (K.getD j 0) (W.getD j 0)
def addSt32 (s t : St32) : St32 := { a := s.a + t.a, b := s.b + t.b, c := s.c + t.c, d := s.d + t.d, e := s.e + t.e, f := s.f + t.f, g := s.g + t.g, h := s.h + t.h }
def cells32 (s : St32) : List Value := [V32 s.a, V32 s.b, V32 s.c, V32 s.d, V32 s.e, V32 s.f, V32 s.g, V32 s.h]
def pieceSt32 (K : List (BitVec 32)) (s : St32) (p : List UInt8) : St32 := addSt32 s (rnds32 K (sched32 (words32 p) (64 - 16)) s 64)
end Go.Proofs.Ytkcmacglomdfcaa

/-
  WORDS OF 64 BITS as values, and Go's operations on them.
-/
namespace Go.Proofs.Ytkcmacglomdfcaa
open Go.RowKit

/-- A word. -/
def V64 (x : BitVec 64) : Value := .int .u64 (x.toNat : Int)
theorem V64_lit (n : Nat) : Value.int .u64 ((BitVec.ofNat 64 n).toNat : Int) = V64 (BitVec.ofNat 64 n) := rfl
@[go_sem ↓, simp high] theorem V64_cells (x : BitVec 64) : (V64 x).cells = #[V64 x] := rfl
@[go_sem ↓, simp high] theorem V64_one (x : BitVec 64) : (V64 x).oneCell' = true := rfl
@[go_sem] theorem run_store_w64 {P : Program} (w : World) (a : Addr) (m : Mode) (x : BitVec 64) : (store a (V64 x) m).run P w = stored P w a (V64 x) m := run_store P w a _ m rfl
@[go_sem] theorem run_storeCells_w64 {P : Program} (w : World) (b o : Nat) (x : BitVec 64) : (storeCells ⟨b, o, none⟩ [V64 x]).run P w = stored P w ⟨b, o, none⟩ (V64 x) .plain := by
  simp only [storeCells, Sem.run_bind, Addr.add_mid, Nat.add_zero, run_store_w64]
  cases stored P w ⟨b, o, none⟩ (V64 x) .plain with
  | ok u w' => simp [Result.andThen]
  | halt u w' => rfl
theorem V64_zero : V64 0#64 = .int .u64 0 := rfl
theorem wrap_u64_nat (n : Nat) : IntKind.u64.wrap (n : Int) = ((n % 18446744073709551616 : Nat) : Int) := by
  simp [IntKind.wrap, IntKind.bits, IntKind.signed]
theorem bv64_int (x : BitVec 64) : BitVec.ofInt 64 (x.toNat : Int) = x := by
  rw [BitVec.ofInt_natCast, BitVec.ofNat_toNat, BitVec.setWidth_eq]
theorem back64 (x : BitVec 64) : Value.int .u64 (IntKind.u64.wrap ((x.toNat : Nat) : Int)) = V64 x := by
  rw [wrap_u64_nat, Nat.mod_eq_of_lt x.isLt]
  rfl
@[go_sem] theorem binOp_add64 (t : TypeId) (x y : BitVec 64) : binOp .add t (V64 x) (V64 y) = pure (V64 (x + y)) := by
  simp only [V64, binOp, Op.intArith, ne_eq, not_true_eq_false, if_false]
  rw [← Int.natCast_add, wrap_u64_nat, BitVec.toNat_add]
@[go_sem] theorem binOp_and64 (t : TypeId) (x y : BitVec 64) : binOp .and t (V64 x) (V64 y) = pure (V64 (x &&& y)) := by
  simp only [V64, binOp, Op.intBits, ne_eq, not_true_eq_false, if_false]
  show pure (Value.int .u64 (IntKind.u64.wrap ((BitVec.ofInt 64 (x.toNat : Int) &&& BitVec.ofInt 64 (y.toNat : Int)).toNat : Int))) = _
  rw [bv64_int, bv64_int, back64]
  rfl
@[go_sem] theorem binOp_or64 (t : TypeId) (x y : BitVec 64) : binOp .or t (V64 x) (V64 y) = pure (V64 (x ||| y)) := by
  simp only [V64, binOp, Op.intBits, ne_eq, not_true_eq_false, if_false]
  show pure (Value.int .u64 (IntKind.u64.wrap ((BitVec.ofInt 64 (x.toNat : Int) ||| BitVec.ofInt 64 (y.toNat : Int)).toNat : Int))) = _
  rw [bv64_int, bv64_int, back64]
  rfl
@[go_sem] theorem binOp_xor64 (t : TypeId) (x y : BitVec 64) : binOp .xor t (V64 x) (V64 y) = pure (V64 (x ^^^ y)) := by
  simp only [V64, binOp, Op.intBits, ne_eq, not_true_eq_false, if_false]
  show pure (Value.int .u64 (IntKind.u64.wrap ((BitVec.ofInt 64 (x.toNat : Int) ^^^ BitVec.ofInt 64 (y.toNat : Int)).toNat : Int))) = _
  rw [bv64_int, bv64_int, back64]
  rfl
/-- Shifts by less than a word. -/
theorem binOp_shr64 (t : TypeId) (k : IntKind) (x : BitVec 64) (n : Nat) (m : Int) (hm : m = (n : Int)) (hn : n ≤ 64) : binOp .shr t (V64 x) (.int k m) = pure (V64 (x >>> n)) := by
  subst hm
  simp only [V64, binOp, Op.shift]
  rw [if_neg (by omega), Int.toNat_natCast, Nat.min_eq_left (show n ≤ IntKind.u64.bits from hn), BitVec.toNat_ushiftRight, Nat.shiftRight_eq_div_pow]
  congr 2
  rw [show ((2 : Int) ^ n) = ((2 ^ n : Nat) : Int) by simp, Int.fdiv_eq_ediv_of_nonneg _ (Int.natCast_nonneg _), ← Int.natCast_ediv]
theorem binOp_shl64 (t : TypeId) (k : IntKind) (x : BitVec 64) (n : Nat) (m : Int) (hm : m = (n : Int)) (hn : n ≤ 64) : binOp .shl t (V64 x) (.int k m) = pure (V64 (x <<< n)) := by
  subst hm
  simp only [V64, binOp, Op.shift]
  rw [if_neg (by omega), Int.toNat_natCast, Nat.min_eq_left (show n ≤ IntKind.u64.bits from hn), BitVec.toNat_shiftLeft, Nat.shiftLeft_eq]
  rw [show ((2 : Int) ^ n) = ((2 ^ n : Nat) : Int) by simp, ← Int.natCast_mul, wrap_u64_nat]
@[go_sem] theorem binOp_shl_lit64 (t : TypeId) (k : IntKind) (x : BitVec 64) : binOp .shl t (V64 x) (.int k 8) = pure (V64 (x <<< 8)) := binOp_shl64 t k x 8 8 rfl (by decide)
@[go_sem] theorem unary_xor64 (x : BitVec 64) : Op.unary .xor (V64 x) = pure (V64 (~~~ x)) := by
  simp only [V64, Op.unary, Op.intBits]
  show pure (Value.int .u64 (IntKind.u64.wrap ((BitVec.ofInt 64 IntKind.u64.max ^^^ BitVec.ofInt 64 (x.toNat : Int)).toNat : Int))) = _
  rw [show BitVec.ofInt 64 IntKind.u64.max = BitVec.allOnes 64 by decide, bv64_int, BitVec.allOnes_xor, back64]
  rfl
@[go_sem] theorem binOp_not64 (t : TypeId) (x : BitVec 64) : binOp .sub t (.int .u64 18446744073709551615) (V64 x) = pure (V64 (~~~ x)) := by
  simp only [V64, binOp, Op.intArith, ne_eq, not_true_eq_false, if_false]
  have h := x.isLt
  rw [show (18446744073709551615 : Int) - (x.toNat : Int) = ((18446744073709551615 - x.toNat : Nat) : Int) by omega, wrap_u64_nat, BitVec.toNat_not, Nat.mod_eq_of_lt (by omega)]
@[go_sem] theorem binOp_mul64 (t : TypeId) (x : BitVec 64) : binOp .mul t (V64 x) (.int .u64 256) = pure (V64 (x * 256#64)) := by
  simp only [V64, binOp, Op.intArith, ne_eq, not_true_eq_false, if_false]
  rw [show (x.toNat : Int) * 256 = ((x.toNat * 256 : Nat) : Int) by omega, wrap_u64_nat, BitVec.toNat_mul]
  rfl
/-- A byte as a word, and a word's lowest byte. -/
@[go_sem high] theorem run_conv_byte64 (c : UInt8) (w : World) : (convert 5 107 (.int .u8 (c.toNat : Int))).run Try.prog w = .ok (V64 (BitVec.ofNat 64 c.toNat)) w := by
  have hc := c.toNat_lt
  simp [convert, run_underlying Try.underlying5, run_underlying Try.underlying107, Conv.intToInt, V64, wrap_u64_nat]
@[go_sem high] theorem run_conv_low64 (x : BitVec 64) (w : World) : (convert 107 5 (V64 x)).run Try.prog w = .ok (.int .u8 ((UInt8.ofNat x.toNat).toNat : Int)) w := by
  simp [convert, run_underlying Try.underlying5, run_underlying Try.underlying107, Conv.intToInt, V64, IntKind.wrap, IntKind.bits, IntKind.signed]
end Go.Proofs.Ytkcmacglomdfcaa

/-
  THE WALKS of turn and mix: words turned, and put together (words of 64 bits).
-/
namespace Go.Proofs.Ytkcmacglomdfcaa
open Go.RowKit

def rot64 (x : BitVec 64) (n : Nat) : BitVec 64 := x >>> n ||| x <<< (64 - n)

theorem turn64_any (w : World) (b : Nat) (x : BitVec 64) (n : Nat) (hn : n ≤ 64) (hb : w.cell? ⟨b, 0, none⟩ = some (.int .i64 64)) :
    Calls Try.prog 113 #[.pointer (some ⟨b, 0, none⟩), V64 x, .int .i64 (n : Int)] w fun e w' => e = .returned (V64 (rot64 x n)) ∧ ∃ m, w' = w.drewN m := by
  have h1 := fun t k => binOp_shr64 t k x n (n : Int) rfl hn
  have h2 := fun t k => binOp_shl64 t k x (64 - n) (64 - (n : Int)) (by omega) (by omega)
  go_enter Try.func113, Try.ntmps113
  go_wp2_with fail
  go_quiet (fail)
  go_wp2
  go_ret
  exact ⟨rfl, _, rfl⟩
theorem turn64_lit (w : World) (b : Nat) (x : BitVec 64) (n : Nat) (m : Int) (hm : m = (n : Int)) (hn : n ≤ 64) (hb : w.cell? ⟨b, 0, none⟩ = some (.int .i64 64)) :
    Calls Try.prog 113 #[.pointer (some ⟨b, 0, none⟩), V64 x, .int .i64 m] w fun e w' => e = .returned (V64 (rot64 x n)) ∧ ∃ m, w' = w.drewN m := by
  subst hm
  exact turn64_any w b x n hn hb
def mx640 (x : BitVec 64) : BitVec 64 := rot64 x 28 ^^^ rot64 x 34 ^^^ rot64 x 39
theorem mix64_0 (w : World) (b : Nat) (x : BitVec 64) (hb : w.cell? ⟨b, 0, none⟩ = some (.int .i64 64)) (k0 : w.cell? ⟨b, 10, none⟩ = some (.int .i64 28)) (k1 : w.cell? ⟨b, 11, none⟩ = some (.int .i64 34)) (k2 : w.cell? ⟨b, 12, none⟩ = some (.int .i64 39)) :
    Calls Try.prog 110 #[.pointer (some ⟨b, 0, none⟩), V64 x, .int .i64 0] w fun e w' => e = .returned (V64 (mx640 x)) ∧ Below w.heap.size w w' := by
  have hlt : b < w.heap.size := World.block_lt_of_cell? w ⟨b, 0, none⟩ hb
  have hsh := fun t k => binOp_shr64 t k x 39 39 rfl (by decide)
  go_enter Try.func110, Try.ntmps110
  go_wp2_with fail
  refine (turn64_lit _ b x 39 39 rfl (by decide) ((World.cell?_alloc_past _ b 0 hlt).trans hb)).mono ?_
  rintro e w1 ⟨rfl, m1, hw1⟩
  have hB1 : Below w.heap.size w w1 := by rw [hw1]; exact below_drewN ((Below.refl w.heap.size w).alloc (Nat.le_refl _) _) m1
  have hb1 : w1.cell? ⟨b, 0, none⟩ = some (.int .i64 64) := (hB1.cell (p := ⟨b, 0, none⟩) hlt).trans hb
  have f : ∀ i v, (#[Value.int .i64 28, .int .i64 34, .int .i64 39])[i]? = some v → w1.cell? ⟨w.heap.size, i, none⟩ = some v := by
    intro i v hv
    rw [hw1]
    exact (World.cell?_alloc_at _ _ _ _ rfl).trans hv
  have f0 := f 0 _ rfl
  have f1 := f 1 _ rfl
  have f2 := f 2 _ rfl
  clear f hw1
  have S0 : ∀ w', Below w1.heap.size w1 w' → w'.cell? ⟨w.heap.size, 0, none⟩ = some (.int .i64 28) ∧ w'.cell? ⟨w.heap.size, 1, none⟩ = some (.int .i64 34) ∧ Below w1.heap.size w1 w' := fun w' hb' =>
    ⟨(hb'.cell (p := ⟨w.heap.size, 0, none⟩) (World.block_lt_of_cell? w1 _ f0)).trans f0, (hb'.cell (p := ⟨w.heap.size, 1, none⟩) (World.block_lt_of_cell? w1 _ f1)).trans f1, hb'⟩
  have C : ∀ wx (m : Int), Below w1.heap.size w1 wx → 0 ≤ m → m ≤ 64 → Calls Try.prog 113 #[.pointer (some ⟨b, 0, none⟩), V64 x, .int .i64 m] wx fun e w' => e = .returned (V64 (rot64 x m.toNat)) ∧ w'.cell? ⟨w.heap.size, 0, none⟩ = some (.int .i64 28) ∧ w'.cell? ⟨w.heap.size, 1, none⟩ = some (.int .i64 34) ∧ Below w1.heap.size w1 w' := fun wx m hb' hm hn =>
    (turn64_lit wx b x m.toNat m (by omega) (by omega) ((hb'.cell (p := ⟨b, 0, none⟩) (World.block_lt_of_cell? w1 _ hb1)).trans hb1)).mono fun e w' ⟨h1, k, h2⟩ => ⟨h1, S0 w' (by rw [h2]; exact below_drewN hb' k)⟩
  have HC := Lib.hid C
  have HS := Lib.hid S0
  clear C S0
  go_wp2_with fail
  go_region_held3 (fun w' => w'.cell? ⟨w.heap.size, 0, none⟩ = some (.int .i64 28) ∧ w'.cell? ⟨w.heap.size, 1, none⟩ = some (.int .i64 34) ∧ Below w1.heap.size w1 w') (first | exact HS.out _ (below_drewN (Below.refl _ _) 1) | assumption)
    (first | (go_at_call 113; refine (HC.out _ _ (And.right (And.right (by assumption))) (by decide) (by decide)).mono ?_; rintro e w' ⟨rfl, hs⟩))
  all_goals
    go_wp2
    go_ret
    refine ⟨?_, hB1.trans (hs.2.2.mono hB1.size)⟩
    unfold mx640
    rfl
def mx641 (x : BitVec 64) : BitVec 64 := rot64 x 14 ^^^ rot64 x 18 ^^^ rot64 x 41
theorem mix64_1 (w : World) (b : Nat) (x : BitVec 64) (hb : w.cell? ⟨b, 0, none⟩ = some (.int .i64 64)) (k0 : w.cell? ⟨b, 13, none⟩ = some (.int .i64 14)) (k1 : w.cell? ⟨b, 14, none⟩ = some (.int .i64 18)) (k2 : w.cell? ⟨b, 15, none⟩ = some (.int .i64 41)) :
    Calls Try.prog 110 #[.pointer (some ⟨b, 0, none⟩), V64 x, .int .i64 1] w fun e w' => e = .returned (V64 (mx641 x)) ∧ Below w.heap.size w w' := by
  have hlt : b < w.heap.size := World.block_lt_of_cell? w ⟨b, 0, none⟩ hb
  have hsh := fun t k => binOp_shr64 t k x 41 41 rfl (by decide)
  go_enter Try.func110, Try.ntmps110
  go_wp2_with fail
  refine (turn64_lit _ b x 41 41 rfl (by decide) ((World.cell?_alloc_past _ b 0 hlt).trans hb)).mono ?_
  rintro e w1 ⟨rfl, m1, hw1⟩
  have hB1 : Below w.heap.size w w1 := by rw [hw1]; exact below_drewN ((Below.refl w.heap.size w).alloc (Nat.le_refl _) _) m1
  have hb1 : w1.cell? ⟨b, 0, none⟩ = some (.int .i64 64) := (hB1.cell (p := ⟨b, 0, none⟩) hlt).trans hb
  have f : ∀ i v, (#[Value.int .i64 14, .int .i64 18, .int .i64 41])[i]? = some v → w1.cell? ⟨w.heap.size, i, none⟩ = some v := by
    intro i v hv
    rw [hw1]
    exact (World.cell?_alloc_at _ _ _ _ rfl).trans hv
  have f0 := f 0 _ rfl
  have f1 := f 1 _ rfl
  have f2 := f 2 _ rfl
  clear f hw1
  have S0 : ∀ w', Below w1.heap.size w1 w' → w'.cell? ⟨w.heap.size, 0, none⟩ = some (.int .i64 14) ∧ w'.cell? ⟨w.heap.size, 1, none⟩ = some (.int .i64 18) ∧ Below w1.heap.size w1 w' := fun w' hb' =>
    ⟨(hb'.cell (p := ⟨w.heap.size, 0, none⟩) (World.block_lt_of_cell? w1 _ f0)).trans f0, (hb'.cell (p := ⟨w.heap.size, 1, none⟩) (World.block_lt_of_cell? w1 _ f1)).trans f1, hb'⟩
  have C : ∀ wx (m : Int), Below w1.heap.size w1 wx → 0 ≤ m → m ≤ 64 → Calls Try.prog 113 #[.pointer (some ⟨b, 0, none⟩), V64 x, .int .i64 m] wx fun e w' => e = .returned (V64 (rot64 x m.toNat)) ∧ w'.cell? ⟨w.heap.size, 0, none⟩ = some (.int .i64 14) ∧ w'.cell? ⟨w.heap.size, 1, none⟩ = some (.int .i64 18) ∧ Below w1.heap.size w1 w' := fun wx m hb' hm hn =>
    (turn64_lit wx b x m.toNat m (by omega) (by omega) ((hb'.cell (p := ⟨b, 0, none⟩) (World.block_lt_of_cell? w1 _ hb1)).trans hb1)).mono fun e w' ⟨h1, k, h2⟩ => ⟨h1, S0 w' (by rw [h2]; exact below_drewN hb' k)⟩
  have HC := Lib.hid C
  have HS := Lib.hid S0
  clear C S0
  go_wp2_with fail
  go_region_held3 (fun w' => w'.cell? ⟨w.heap.size, 0, none⟩ = some (.int .i64 14) ∧ w'.cell? ⟨w.heap.size, 1, none⟩ = some (.int .i64 18) ∧ Below w1.heap.size w1 w') (first | exact HS.out _ (below_drewN (Below.refl _ _) 1) | assumption)
    (first | (go_at_call 113; refine (HC.out _ _ (And.right (And.right (by assumption))) (by decide) (by decide)).mono ?_; rintro e w' ⟨rfl, hs⟩))
  all_goals
    go_wp2
    go_ret
    refine ⟨?_, hB1.trans (hs.2.2.mono hB1.size)⟩
    unfold mx641
    rfl
def mx642 (x : BitVec 64) : BitVec 64 := rot64 x 1 ^^^ rot64 x 8 ^^^ x >>> 7
theorem mix64_2 (w : World) (b : Nat) (x : BitVec 64) (hb : w.cell? ⟨b, 0, none⟩ = some (.int .i64 64)) (k0 : w.cell? ⟨b, 16, none⟩ = some (.int .i64 1)) (k1 : w.cell? ⟨b, 17, none⟩ = some (.int .i64 8)) (k2 : w.cell? ⟨b, 18, none⟩ = some (.int .i64 7)) :
    Calls Try.prog 110 #[.pointer (some ⟨b, 0, none⟩), V64 x, .int .i64 2] w fun e w' => e = .returned (V64 (mx642 x)) ∧ Below w.heap.size w w' := by
  have hlt : b < w.heap.size := World.block_lt_of_cell? w ⟨b, 0, none⟩ hb
  have hsh := fun t k => binOp_shr64 t k x 7 7 rfl (by decide)
  go_enter Try.func110, Try.ntmps110
  go_wp2_with fail
  refine (turn64_lit _ b x 7 7 rfl (by decide) ((World.cell?_alloc_past _ b 0 hlt).trans hb)).mono ?_
  rintro e w1 ⟨rfl, m1, hw1⟩
  have hB1 : Below w.heap.size w w1 := by rw [hw1]; exact below_drewN ((Below.refl w.heap.size w).alloc (Nat.le_refl _) _) m1
  have hb1 : w1.cell? ⟨b, 0, none⟩ = some (.int .i64 64) := (hB1.cell (p := ⟨b, 0, none⟩) hlt).trans hb
  have f : ∀ i v, (#[Value.int .i64 1, .int .i64 8, .int .i64 7])[i]? = some v → w1.cell? ⟨w.heap.size, i, none⟩ = some v := by
    intro i v hv
    rw [hw1]
    exact (World.cell?_alloc_at _ _ _ _ rfl).trans hv
  have f0 := f 0 _ rfl
  have f1 := f 1 _ rfl
  have f2 := f 2 _ rfl
  clear f hw1
  have S0 : ∀ w', Below w1.heap.size w1 w' → w'.cell? ⟨w.heap.size, 0, none⟩ = some (.int .i64 1) ∧ w'.cell? ⟨w.heap.size, 1, none⟩ = some (.int .i64 8) ∧ Below w1.heap.size w1 w' := fun w' hb' =>
    ⟨(hb'.cell (p := ⟨w.heap.size, 0, none⟩) (World.block_lt_of_cell? w1 _ f0)).trans f0, (hb'.cell (p := ⟨w.heap.size, 1, none⟩) (World.block_lt_of_cell? w1 _ f1)).trans f1, hb'⟩
  have C : ∀ wx (m : Int), Below w1.heap.size w1 wx → 0 ≤ m → m ≤ 64 → Calls Try.prog 113 #[.pointer (some ⟨b, 0, none⟩), V64 x, .int .i64 m] wx fun e w' => e = .returned (V64 (rot64 x m.toNat)) ∧ w'.cell? ⟨w.heap.size, 0, none⟩ = some (.int .i64 1) ∧ w'.cell? ⟨w.heap.size, 1, none⟩ = some (.int .i64 8) ∧ Below w1.heap.size w1 w' := fun wx m hb' hm hn =>
    (turn64_lit wx b x m.toNat m (by omega) (by omega) ((hb'.cell (p := ⟨b, 0, none⟩) (World.block_lt_of_cell? w1 _ hb1)).trans hb1)).mono fun e w' ⟨h1, k, h2⟩ => ⟨h1, S0 w' (by rw [h2]; exact below_drewN hb' k)⟩
  have HC := Lib.hid C
  have HS := Lib.hid S0
  clear C S0
  go_wp2_with fail
  go_region_held3 (fun w' => w'.cell? ⟨w.heap.size, 0, none⟩ = some (.int .i64 1) ∧ w'.cell? ⟨w.heap.size, 1, none⟩ = some (.int .i64 8) ∧ Below w1.heap.size w1 w') (first | exact HS.out _ (below_drewN (Below.refl _ _) 1) | assumption)
    (first | (go_at_call 113; refine (HC.out _ _ (And.right (And.right (by assumption))) (by decide) (by decide)).mono ?_; rintro e w' ⟨rfl, hs⟩))
  all_goals
    go_wp2
    go_ret
    refine ⟨?_, hB1.trans (hs.2.2.mono hB1.size)⟩
    unfold mx642
    rfl
def mx643 (x : BitVec 64) : BitVec 64 := rot64 x 19 ^^^ rot64 x 61 ^^^ x >>> 6
theorem mix64_3 (w : World) (b : Nat) (x : BitVec 64) (hb : w.cell? ⟨b, 0, none⟩ = some (.int .i64 64)) (k0 : w.cell? ⟨b, 19, none⟩ = some (.int .i64 19)) (k1 : w.cell? ⟨b, 20, none⟩ = some (.int .i64 61)) (k2 : w.cell? ⟨b, 21, none⟩ = some (.int .i64 6)) :
    Calls Try.prog 110 #[.pointer (some ⟨b, 0, none⟩), V64 x, .int .i64 3] w fun e w' => e = .returned (V64 (mx643 x)) ∧ Below w.heap.size w w' := by
  have hlt : b < w.heap.size := World.block_lt_of_cell? w ⟨b, 0, none⟩ hb
  have hsh := fun t k => binOp_shr64 t k x 6 6 rfl (by decide)
  go_enter Try.func110, Try.ntmps110
  go_wp2_with fail
  refine (turn64_lit _ b x 6 6 rfl (by decide) ((World.cell?_alloc_past _ b 0 hlt).trans hb)).mono ?_
  rintro e w1 ⟨rfl, m1, hw1⟩
  have hB1 : Below w.heap.size w w1 := by rw [hw1]; exact below_drewN ((Below.refl w.heap.size w).alloc (Nat.le_refl _) _) m1
  have hb1 : w1.cell? ⟨b, 0, none⟩ = some (.int .i64 64) := (hB1.cell (p := ⟨b, 0, none⟩) hlt).trans hb
  have f : ∀ i v, (#[Value.int .i64 19, .int .i64 61, .int .i64 6])[i]? = some v → w1.cell? ⟨w.heap.size, i, none⟩ = some v := by
    intro i v hv
    rw [hw1]
    exact (World.cell?_alloc_at _ _ _ _ rfl).trans hv
  have f0 := f 0 _ rfl
  have f1 := f 1 _ rfl
  have f2 := f 2 _ rfl
  clear f hw1
  have S0 : ∀ w', Below w1.heap.size w1 w' → w'.cell? ⟨w.heap.size, 0, none⟩ = some (.int .i64 19) ∧ w'.cell? ⟨w.heap.size, 1, none⟩ = some (.int .i64 61) ∧ Below w1.heap.size w1 w' := fun w' hb' =>
    ⟨(hb'.cell (p := ⟨w.heap.size, 0, none⟩) (World.block_lt_of_cell? w1 _ f0)).trans f0, (hb'.cell (p := ⟨w.heap.size, 1, none⟩) (World.block_lt_of_cell? w1 _ f1)).trans f1, hb'⟩
  have C : ∀ wx (m : Int), Below w1.heap.size w1 wx → 0 ≤ m → m ≤ 64 → Calls Try.prog 113 #[.pointer (some ⟨b, 0, none⟩), V64 x, .int .i64 m] wx fun e w' => e = .returned (V64 (rot64 x m.toNat)) ∧ w'.cell? ⟨w.heap.size, 0, none⟩ = some (.int .i64 19) ∧ w'.cell? ⟨w.heap.size, 1, none⟩ = some (.int .i64 61) ∧ Below w1.heap.size w1 w' := fun wx m hb' hm hn =>
    (turn64_lit wx b x m.toNat m (by omega) (by omega) ((hb'.cell (p := ⟨b, 0, none⟩) (World.block_lt_of_cell? w1 _ hb1)).trans hb1)).mono fun e w' ⟨h1, k, h2⟩ => ⟨h1, S0 w' (by rw [h2]; exact below_drewN hb' k)⟩
  have HC := Lib.hid C
  have HS := Lib.hid S0
  clear C S0
  go_wp2_with fail
  go_region_held3 (fun w' => w'.cell? ⟨w.heap.size, 0, none⟩ = some (.int .i64 19) ∧ w'.cell? ⟨w.heap.size, 1, none⟩ = some (.int .i64 61) ∧ Below w1.heap.size w1 w') (first | exact HS.out _ (below_drewN (Below.refl _ _) 1) | assumption)
    (first | (go_at_call 113; refine (HC.out _ _ (And.right (And.right (by assumption))) (by decide) (by decide)).mono ?_; rintro e w' ⟨rfl, hs⟩))
  all_goals
    go_wp2
    go_ret
    refine ⟨?_, hB1.trans (hs.2.2.mono hB1.size)⟩
    unfold mx643
    rfl
end Go.Proofs.Ytkcmacglomdfcaa

/-
  A PIECE, plainly (words of 64 bits).
-/
namespace Go.Proofs.Ytkcmacglomdfcaa

/-- Bytes as a word, the first one the highest. -/
def be64 (l : List UInt8) : BitVec 64 := l.foldl (fun x c => x <<< 8 ||| BitVec.ofNat 64 c.toNat) 0
theorem be64_snoc (l : List UInt8) (c : UInt8) : be64 (l ++ [c]) = be64 l <<< 8 ||| BitVec.ofNat 64 c.toNat := by simp [be64]
/-- The words of a piece. -/
def words64 (p : List UInt8) : List (BitVec 64) := (List.range 16).map fun k => be64 (chunkOf p 8 k)
/-- One word more. -/
def nextW64 (w : List (BitVec 64)) : BitVec 64 := mx643 (w.getD (w.length - 2) 0) + w.getD (w.length - 7) 0 + mx642 (w.getD (w.length - 15) 0) + w.getD (w.length - 16) 0
def sched64 (w : List (BitVec 64)) : Nat → List (BitVec 64)
  | 0 => w
  | k + 1 => sched64 w k ++ [nextW64 (sched64 w k)]
theorem sched64_len (w : List (BitVec 64)) (k : Nat) : (sched64 w k).length = w.length + k := by
  induction k with
  | zero => rfl
  | succ k ih => simp [sched64, ih]; omega
structure St64 where
  a : BitVec 64
  b : BitVec 64
  c : BitVec 64
  d : BitVec 64
  e : BitVec 64
  f : BitVec 64
  g : BitVec 64
  h : BitVec 64
def rnd64 (s : St64) (k w : BitVec 64) : St64 :=
  { a := (s.h + mx641 s.e + (s.e &&& s.f ||| ~~~ s.e &&& s.g) + k + w) + (mx640 s.a + (s.a &&& s.b ||| s.a &&& s.c ||| s.b &&& s.c)), b := s.a, c := s.b, d := s.c,
    e := s.d + (s.h + mx641 s.e + (s.e &&& s.f ||| ~~~ s.e &&& s.g) + k + w), f := s.e, g := s.f, h := s.g }
def rnds64 (K W : List (BitVec 64)) (s : St64) : Nat → St64
  | 0 => s
  | j + 1 => rnd64 (rnds64 K W s j) (K.getD j 0) (W.getD j 0)
def addSt64 (s t : St64) : St64 := { a := s.a + t.a, b := s.b + t.b, c := s.c + t.c, d := s.d + t.d, e := s.e + t.e, f := s.f + t.f, g := s.g + t.g, h := s.h + t.h }
def cells64 (s : St64) : List Value := [V64 s.a, V64 s.b, V64 s.c, V64 s.d, V64 s.e, V64 s.f, V64 s.g, V64 s.h]
def pieceSt64 (K : List (BitVec 64)) (s : St64) (p : List UInt8) : St64 := addSt64 s (rnds64 K (sched64 (words64 p) (80 - 16)) s 80)
end Go.Proofs.Ytkcmacglomdfcaa
