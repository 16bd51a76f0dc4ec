/-
  THE PLAIN LAW of check sums: what the register does, bit by bit, by nibbles, by bytes. No program in sight.
-/
import Derived.Laws.BitsAllLaws
namespace Go.Proofs.Ytdmiiageihbokaa

/-- One bit of the register's way. -/
def crcT (x : BitVec 32) : BitVec 32 := if x.getLsbD 0 then x >>> 1 ^^^ 0xedb88320#32 else x >>> 1
def crcTn : Nat → BitVec 32 → BitVec 32
  | 0, x => x
  | n + 1, x => crcT (crcTn n x)
def tabAt (i : Nat) : BitVec 32 := crcTn 4 (BitVec.ofNat 32 i)
/-- What the program does with half a byte, with a byte, with a row of bytes. -/
def nib (x : BitVec 32) (d : Nat) : BitVec 32 := x >>> 4 ^^^ tabAt ((x.toNat ^^^ d) % 16)
def byteStep (x : BitVec 32) (c : UInt8) : BitVec 32 := nib (nib x c.toNat) (c.toNat / 16)
def crcR (x : BitVec 32) (bs : List UInt8) : BitVec 32 := bs.foldl byteStep x
def crcMore (s : BitVec 32) (bs : List UInt8) : BitVec 32 := ~~~ (crcR (~~~ s) bs)

/-- The check sum of a row of bytes. -/
def crcSum (bs : List UInt8) : BitVec 32 := crcMore 0#32 bs
theorem crcR_snoc (x : BitVec 32) (bs : List UInt8) (c : UInt8) : crcR x (bs ++ [c]) = byteStep (crcR x bs) c := by simp [crcR]
theorem crcR_append (x : BitVec 32) (a b : List UInt8) : crcR x (a ++ b) = crcR (crcR x a) b := by simp [crcR]
theorem crcMore_append (s : BitVec 32) (a b : List UInt8) : crcMore s (a ++ b) = crcMore (crcMore s a) b := by simp [crcMore, crcR_append]
theorem crcMore_nil (s : BitVec 32) : crcMore s [] = s := by simp [crcMore, crcR]

theorem crcSum_nil : crcSum [] = 0#32 := crcMore_nil _
theorem crcSum_append (a b : List UInt8) : crcSum (a ++ b) = crcMore (crcSum a) b := crcMore_append _ _ _
/-- The document's register: bit by bit. -/
def refBit (x : BitVec 32) (b : Bool) : BitVec 32 := if x.getLsbD 0 = b then x >>> 1 else x >>> 1 ^^^ 0xedb88320#32
def bitAt (bs : List UInt8) (k : Nat) : Bool := (bs.getD (k / 8) 0).toNat.testBit (k % 8)
def refUp (bs : List UInt8) : Nat → BitVec 32
  | 0 => 0xffffffff#32
  | k + 1 => refBit (refUp bs k) (bitAt bs k)
def refOf (bs : List UInt8) : BitVec 32 := ~~~ (refUp bs (8 * bs.length))

/-! ### The program's sum is the document's -/
theorem crcT_xor (x y : BitVec 32) : crcT (x ^^^ y) = crcT x ^^^ crcT y := by
  have e : (x ^^^ y) >>> 1 = x >>> 1 ^^^ y >>> 1 := BitVec.ushiftRight_xor_distrib x y 1
  unfold crcT
  rw [BitVec.getLsbD_xor, e]
  cases x.getLsbD 0 <;> cases y.getLsbD 0
  · simp
  · simp [BitVec.xor_assoc]
  · simp only [Bool.true_xor, Bool.not_false, if_true, Bool.false_eq_true, if_false]
    ac_rfl
  · simp only [Bool.true_xor, Bool.not_true, if_true, Bool.false_eq_true, if_false]
    have : ∀ a b c : BitVec 32, a ^^^ c ^^^ (b ^^^ c) = a ^^^ b := fun a b c => by
      rw [show a ^^^ c ^^^ (b ^^^ c) = a ^^^ b ^^^ (c ^^^ c) by ac_rfl, BitVec.xor_self, BitVec.xor_zero]
    rw [this]
theorem crcTn_xor (n : Nat) (x y : BitVec 32) : crcTn n (x ^^^ y) = crcTn n x ^^^ crcTn n y := by
  induction n with
  | zero => rfl
  | succ n ih => rw [crcTn, crcTn, crcTn, ih, crcT_xor]
def bit0 (b : Bool) : BitVec 32 := if b then 1#32 else 0#32
theorem refBit_T (x : BitVec 32) (b : Bool) : refBit x b = crcT (x ^^^ bit0 b) := by
  rw [crcT_xor]
  unfold refBit crcT bit0
  cases b <;> cases h : x.getLsbD 0 <;> simp [BitVec.xor_assoc]
def nib4 (b0 b1 b2 b3 : Bool) : BitVec 32 := bit0 b0 ||| bit0 b1 <<< 1 ||| bit0 b2 <<< 2 ||| bit0 b3 <<< 3
theorem nib_consts (b0 b1 b2 b3 : Bool) : crcTn 4 (nib4 b0 b1 b2 b3) = crcTn 4 (bit0 b0) ^^^ crcTn 3 (bit0 b1) ^^^ crcTn 2 (bit0 b2) ^^^ crcTn 1 (bit0 b3) := by
  revert b0 b1 b2 b3
  decide
theorem refBit_four (x : BitVec 32) (b0 b1 b2 b3 : Bool) : refBit (refBit (refBit (refBit x b0) b1) b2) b3 = crcTn 4 (x ^^^ nib4 b0 b1 b2 b3) := by
  rw [crcTn_xor, nib_consts]
  simp only [refBit_T, crcT_xor, crcTn]
  ac_rfl
theorem low_bits (d : Fin 256) : BitVec.ofNat 32 (d.val % 16) = nib4 (d.val.testBit 0) (d.val.testBit 1) (d.val.testBit 2) (d.val.testBit 3) ∧
    BitVec.ofNat 32 (d.val / 16) = nib4 (d.val.testBit 4) (d.val.testBit 5) (d.val.testBit 6) (d.val.testBit 7) := by
  revert d
  decide +kernel
theorem crcT_even' (x : BitVec 32) (h : x.getLsbD 0 = false) : crcT x = x >>> 1 := by unfold crcT; rw [h]; rfl
theorem crcT4_shift (u : BitVec 32) : crcTn 4 (u <<< 4) = (u <<< 4) >>> 4 := by
  have h : ∀ i, i < 4 → ((u <<< 4) >>> i).getLsbD 0 = false := by
    intro i hi
    rw [BitVec.getLsbD_ushiftRight, BitVec.getLsbD_shiftLeft]
    simp; omega
  have s : ∀ i, (u <<< 4) >>> (i + 1) = ((u <<< 4) >>> i) >>> 1 := fun i => (BitVec.shiftRight_add _ i 1)
  have h0 := h 0 (by omega)
  rw [BitVec.ushiftRight_zero] at h0
  simp only [crcTn]
  rw [crcT_even' _ h0, crcT_even' _ (h 1 (by omega)), ← s 1, crcT_even' _ (h 2 (by omega)), ← s 2, crcT_even' _ (h 3 (by omega)), ← s 3]
theorem nib_T (x : BitVec 32) (d : Nat) : nib x d = crcTn 4 (x ^^^ BitVec.ofNat 32 (d % 16)) := by
  obtain ⟨z, hz⟩ : ∃ z, z = x ^^^ BitVec.ofNat 32 (d % 16) := ⟨_, rfl⟩
  have hsplit : z = ((z >>> 4) <<< 4) ^^^ (z &&& 15#32) := by
    apply BitVec.eq_of_getLsbD_eq
    intro i hi
    rw [BitVec.getLsbD_xor, BitVec.getLsbD_shiftLeft, BitVec.getLsbD_ushiftRight, BitVec.getLsbD_and]
    have h15 : (15#32).getLsbD i = decide (i < 4) := by
      have : ∀ j : Fin 32, (15#32).getLsbD j.val = decide (j.val < 4) := by decide
      exact this ⟨i, hi⟩
    rw [h15]
    by_cases h4 : i < 4
    · simp [h4, hi]
    · simp [h4, hi, show 4 + (i - 4) = i by omega]
  have hshift : ((z >>> 4) <<< 4) >>> 4 = z >>> 4 := by
    apply BitVec.eq_of_getLsbD_eq
    intro i hi
    rw [BitVec.getLsbD_ushiftRight, BitVec.getLsbD_shiftLeft, BitVec.getLsbD_ushiftRight, BitVec.getLsbD_ushiftRight]
    by_cases h28 : 4 + i < 32
    · simp [h28]
    · simp [h28]
      rw [BitVec.getLsbD_of_ge _ _ (by omega)]
  have hx4 : z >>> 4 = x >>> 4 := by
    rw [hz, BitVec.ushiftRight_xor_distrib]
    have : BitVec.ofNat 32 (d % 16) >>> 4 = 0#32 := by
      apply BitVec.eq_of_toNat_eq
      rw [BitVec.toNat_ushiftRight, BitVec.toNat_ofNat, Nat.shiftRight_eq_div_pow]
      simp
      omega
    rw [this, BitVec.xor_zero]
  have hlow : z &&& 15#32 = BitVec.ofNat 32 ((x.toNat ^^^ d) % 16) := by
    apply BitVec.eq_of_toNat_eq
    rw [hz, BitVec.toNat_and, BitVec.toNat_xor, BitVec.toNat_ofNat, BitVec.toNat_ofNat, BitVec.toNat_ofNat]
    rw [Nat.mod_eq_of_lt (show d % 16 < 2 ^ 32 by omega), Nat.mod_eq_of_lt (show (x.toNat ^^^ d) % 16 < 2 ^ 32 by omega), show 15 % 2 ^ 32 = 2 ^ 4 - 1 by rfl, Nat.and_two_pow_sub_one_eq_mod, show (16 : Nat) = 2 ^ 4 by rfl, Nat.xor_mod_two_pow, Nat.xor_mod_two_pow, Nat.mod_mod]
  rw [← hz, hsplit, crcTn_xor, crcT4_shift, hshift, hx4, hlow]
  rfl
theorem byteStep_bits (x : BitVec 32) (c : UInt8) :
    byteStep x c = refBit (refBit (refBit (refBit (refBit (refBit (refBit (refBit x (c.toNat.testBit 0)) (c.toNat.testBit 1)) (c.toNat.testBit 2)) (c.toNat.testBit 3)) (c.toNat.testBit 4)) (c.toNat.testBit 5)) (c.toNat.testBit 6)) (c.toNat.testBit 7) := by
  have h := low_bits ⟨c.toNat, c.toNat_lt⟩
  simp only at h
  rw [byteStep, nib_T, nib_T, refBit_four, refBit_four, ← h.1, ← h.2, Nat.mod_eq_of_lt (show c.toNat / 16 < 16 by have := c.toNat_lt; omega)]
theorem refUp_take (bs : List UInt8) : ∀ k, k ≤ bs.length → refUp bs (8 * k) = crcR 0xffffffff#32 (bs.take k) := by
  intro k
  induction k with
  | zero => intro _; rfl
  | succ k ih =>
    intro hk
    have hb : bs[k]? = some (bs[k]'(by omega)) := List.getElem?_eq_getElem (by omega)
    have hat : ∀ j, j < 8 → bitAt bs (8 * k + j) = (bs[k]'(by omega)).toNat.testBit j := by
      intro j hj
      rw [bitAt, show (8 * k + j) / 8 = k by omega, show (8 * k + j) % 8 = j by omega, List.getD_eq_getElem?_getD, hb]
      rfl
    rw [List.take_add_one, hb]
    show refUp bs (8 * k + 7 + 1) = crcR _ (bs.take k ++ [bs[k]'(by omega)])
    rw [crcR_snoc, ← ih (by omega), byteStep_bits, ← hat 0 (by omega), ← hat 1 (by omega), ← hat 2 (by omega), ← hat 3 (by omega), ← hat 4 (by omega), ← hat 5 (by omega), ← hat 6 (by omega), ← hat 7 (by omega)]
    rfl
theorem refOf_eq (bs : List UInt8) : refOf bs = crcSum bs := by
  rw [crcSum, refOf, refUp_take bs _ (Nat.le_refl _), List.take_length, crcMore]
  rfl
theorem alive_sum : crcSum [49, 50, 51, 52, 53, 54, 55, 56, 57] = 0xcbf43926#32 := by decide +kernel

/-! ### Go's numbers -/
theorem nib_index (x : BitVec 32) (d : Nat) (hd : d < 4294967296) : bits .and .u32 (bits .xor .u32 (x.toNat : Int) (d : Int)) 15 = (((x.toNat ^^^ d) % 16 : Nat) : Int) := by
  have hx := x.isLt
  have h2 : x.toNat ^^^ d < 2 ^ 32 := Nat.xor_lt_two_pow hx hd
  rw [u32_xor_nat _ _ hx hd, show (15 : Int) = ((15 : Nat) : Int) from rfl, u32_and_nat _ _ (by omega) (by omega)]
  exact congrArg _ (Nat.and_two_pow_sub_one_eq_mod _ 4)
theorem nib_value (x y : BitVec 32) : bits .xor .u32 ((x.toNat : Int) / 16) (y.toNat : Int) = ((x >>> 4 ^^^ y).toNat : Int) := by
  have hx := x.isLt
  have hy := y.isLt
  rw [show ((x.toNat : Int) / 16) = ((x.toNat / 16 : Nat) : Int) by omega, u32_xor_nat _ _ (by omega) hy, BitVec.toNat_xor, BitVec.toNat_ushiftRight, Nat.shiftRight_eq_div_pow]
theorem not_value (x : BitVec 32) : bits .xor .u32 4294967295 (x.toNat : Int) = ((~~~ x).toNat : Int) := by
  have hx := x.isLt
  rw [show (4294967295 : Int) = ((4294967295 : Nat) : Int) from rfl, u32_xor_nat _ _ (by omega) hx]
  have : (4294967295#32 ^^^ x).toNat = 4294967295 ^^^ x.toNat := by rw [BitVec.toNat_xor]; rfl
  have h : (4294967295#32 : BitVec 32) = BitVec.allOnes 32 := by decide
  rw [← this, h, BitVec.allOnes_xor]
end Go.Proofs.Ytdmiiageihbokaa
