/-
  THE PLAIN LAW of check sums, more: sums of texts put together by exclusive or; bits changed are found. No program in sight.
-/
import Derived.Test.YtdmiiageihbokaaCrcP
namespace Go.Proofs.Ytdmiiageihbokaa

def byteW (c : UInt8) : BitVec 32 := BitVec.ofNat 32 c.toNat
def lowB (y : BitVec 32) : UInt8 := UInt8.ofNat y.toNat
theorem crcTn_add (m n : Nat) (x : BitVec 32) : crcTn (m + n) x = crcTn m (crcTn n x) := by
  induction m with
  | zero => simp [crcTn]
  | succ m ih => rw [Nat.succ_add, crcTn, crcTn, ih]
theorem crcTn_zero (n : Nat) : crcTn n 0#32 = 0#32 := by
  induction n with
  | zero => rfl
  | succ n ih => rw [crcTn, ih]; decide
theorem byteW_split (c : UInt8) : byteW c = BitVec.ofNat 32 (c.toNat % 16) ^^^ (BitVec.ofNat 32 (c.toNat / 16) <<< 4) := by
  have h : ∀ d : Fin 256, BitVec.ofNat 32 d.val = BitVec.ofNat 32 (d.val % 16) ^^^ (BitVec.ofNat 32 (d.val / 16) <<< 4) := by decide +kernel
  exact h ⟨c.toNat, c.toNat_lt⟩
theorem high_back (c : UInt8) : (BitVec.ofNat 32 (c.toNat / 16) <<< 4) >>> 4 = BitVec.ofNat 32 (c.toNat / 16) := by
  have h : ∀ d : Fin 256, (BitVec.ofNat 32 (d.val / 16) <<< 4) >>> 4 = BitVec.ofNat 32 (d.val / 16) := by decide +kernel
  exact h ⟨c.toNat, c.toNat_lt⟩
theorem byteStep_T (x : BitVec 32) (c : UInt8) : byteStep x c = crcTn 8 (x ^^^ byteW c) := by
  rw [show (8 : Nat) = 4 + 4 from rfl, crcTn_add, byteW_split, ← BitVec.xor_assoc, crcTn_xor 4 (x ^^^ BitVec.ofNat 32 (c.toNat % 16)) (BitVec.ofNat 32 (c.toNat / 16) <<< 4), crcT4_shift, high_back, byteStep, nib_T, nib_T, Nat.mod_eq_of_lt (show c.toNat / 16 < 16 by have := c.toNat_lt; omega)]
theorem byteW_xor (c d : UInt8) : byteW (c ^^^ d) = byteW c ^^^ byteW d := by
  unfold byteW
  apply BitVec.eq_of_toNat_eq
  have hc := c.toNat_lt
  have hd := d.toNat_lt
  have hx : c.toNat ^^^ d.toNat < 2 ^ 8 := Nat.xor_lt_two_pow hc hd
  rw [UInt8.toNat_xor, BitVec.toNat_xor, BitVec.toNat_ofNat, BitVec.toNat_ofNat, BitVec.toNat_ofNat, Nat.mod_eq_of_lt (by omega), Nat.mod_eq_of_lt (by omega), Nat.mod_eq_of_lt (by omega)]
theorem byteStep_xor (x y : BitVec 32) (c d : UInt8) : byteStep (x ^^^ y) (c ^^^ d) = byteStep x c ^^^ byteStep y d := by
  rw [byteStep_T, byteStep_T, byteStep_T, ← crcTn_xor, byteW_xor]
  congr 1
  ac_rfl
theorem crcR_xor : ∀ (a b : List UInt8) (x y : BitVec 32), a.length = b.length → crcR (x ^^^ y) (List.zipWith (· ^^^ ·) a b) = crcR x a ^^^ crcR y b
  | [], [], x, y, _ => rfl
  | c :: a, d :: b, x, y, h => by
    show crcR (byteStep (x ^^^ y) (c ^^^ d)) (List.zipWith (· ^^^ ·) a b) = crcR (byteStep x c) a ^^^ crcR (byteStep y d) b
    rw [byteStep_xor]
    exact crcR_xor a b _ _ (by simpa using h)
  | [], d :: b, x, y, h => by simp at h
  | c :: a, [], x, y, h => by simp at h
theorem crcR_zeros (n : Nat) : crcR 0#32 (List.replicate n 0) = 0#32 := by
  induction n with
  | zero => rfl
  | succ n ih =>
    show crcR (byteStep 0#32 0) (List.replicate n 0) = _
    rw [show byteStep 0#32 0 = 0#32 by decide]
    exact ih
theorem crcT_ne (x : BitVec 32) (h : x ≠ 0#32) : crcT x ≠ 0#32 := by
  intro e
  apply h
  have hbit : ∀ i, (crcT x).getLsbD i = false := by intro i; rw [e]; simp
  unfold crcT at hbit
  cases h0 : x.getLsbD 0 with
  | true =>
    rw [h0] at hbit
    have := hbit 31
    rw [if_pos rfl, BitVec.getLsbD_xor, BitVec.getLsbD_ushiftRight, BitVec.getLsbD_of_ge _ _ (by omega)] at this
    exact absurd this (by decide)
  | false =>
    rw [h0] at hbit
    apply BitVec.eq_of_getLsbD_eq
    intro i hi
    rw [BitVec.getLsbD_zero]
    rcases Nat.eq_zero_or_pos i with e0 | e0
    · rw [e0]; exact h0
    · have := hbit (i - 1)
      rw [if_neg (by simp), BitVec.getLsbD_ushiftRight, show 1 + (i - 1) = i by omega] at this
      exact this
theorem crcTn_ne (n : Nat) (x : BitVec 32) (h : x ≠ 0#32) : crcTn n x ≠ 0#32 := by
  induction n with
  | zero => exact h
  | succ n ih => exact crcT_ne _ ih
theorem crcR_zeros_ne (n : Nat) : ∀ x : BitVec 32, x ≠ 0#32 → crcR x (List.replicate n 0) ≠ 0#32 := by
  induction n with
  | zero => intro x h; exact h
  | succ n ih =>
    intro x h
    show crcR (byteStep x 0) (List.replicate n 0) ≠ _
    apply ih
    rw [byteStep_T]
    exact crcTn_ne 8 _ (by rw [show byteW 0 = 0#32 by decide, BitVec.xor_zero]; exact h)
theorem crcT8_shift (u : BitVec 32) : crcTn 8 (u <<< 8) = (u <<< 8) >>> 8 := by
  have e : (u <<< 8) = (u <<< 4) <<< 4 := by rw [← BitVec.shiftLeft_add]
  have e2 : ((u <<< 4) <<< 4) >>> 4 = ((u <<< 8) >>> 8) <<< 4 := by
    apply BitVec.eq_of_getLsbD_eq
    intro i hi
    rw [BitVec.getLsbD_ushiftRight, BitVec.getLsbD_shiftLeft, BitVec.getLsbD_shiftLeft, BitVec.getLsbD_shiftLeft, BitVec.getLsbD_ushiftRight, BitVec.getLsbD_shiftLeft]
    by_cases h4 : i < 4
    · simp [h4]
    · by_cases h28 : 4 + i < 32
      · simp [h4, hi, h28, show 4 + i - 4 = i by omega, show 8 + (i - 4) < 32 by omega, show 8 + (i - 4) - 8 = i - 4 by omega, show ¬ 4 + i < 4 by omega, show ¬ 8 + (i - 4) < 8 by omega]
      · simp [h28, show ¬ 8 + (i - 4) < 32 by omega]
  rw [show (8 : Nat) = 4 + 4 from rfl, crcTn_add, show (4 + 4 : Nat) = 8 from rfl, e, crcT4_shift, e2, crcT4_shift, e]
  apply BitVec.eq_of_getLsbD_eq
  intro i hi
  rw [← e, BitVec.getLsbD_ushiftRight, BitVec.getLsbD_shiftLeft]
  by_cases h28 : 4 + i < 32
  · simp [h28, show 4 + i - 4 = i by omega, show ¬ 4 + i < 4 by omega]
  · have := BitVec.getLsbD_of_ge (u <<< 8) (8 + i) (by omega)
    have h2 : ((u <<< 8) >>> 8).getLsbD i = false := by rw [BitVec.getLsbD_ushiftRight, this]
    rw [h2]
    simp [h28]
/-- One byte of a word goes in, the others move on. -/
theorem crcT8_word (x y : BitVec 32) : crcTn 8 (x ^^^ y) = byteStep x (lowB y) ^^^ (y >>> 8) := by
  have hsplit : y = byteW (lowB y) ^^^ ((y >>> 8) <<< 8) := by
    apply BitVec.eq_of_getLsbD_eq
    intro i hi
    rw [BitVec.getLsbD_xor, BitVec.getLsbD_shiftLeft, BitVec.getLsbD_ushiftRight]
    have hl : (byteW (lowB y)).getLsbD i = (decide (i < 8) && y.getLsbD i) := by
      unfold byteW lowB
      rw [BitVec.getLsbD_ofNat, UInt8.toNat_ofNat', Nat.testBit_mod_two_pow]
      simp [hi, BitVec.getLsbD]
    rw [hl]
    by_cases h8 : i < 8
    · simp [h8]
    · simp [h8, hi, show 8 + (i - 8) = i by omega]
  have hback : ((y >>> 8) <<< 8) >>> 8 = y >>> 8 := by
    apply BitVec.eq_of_getLsbD_eq
    intro i hi
    rw [BitVec.getLsbD_ushiftRight, BitVec.getLsbD_shiftLeft, BitVec.getLsbD_ushiftRight, BitVec.getLsbD_ushiftRight]
    by_cases h24 : 8 + i < 32
    · simp [h24]
    · rw [BitVec.getLsbD_of_ge y (8 + i) (by omega)]
      simp [h24]
  rw [byteStep_T]
  conv => lhs; rw [hsplit]
  rw [← BitVec.xor_assoc, crcTn_xor 8 (x ^^^ byteW (lowB y)) ((y >>> 8) <<< 8), crcT8_shift, hback]
def wordBytes (y : BitVec 32) : List UInt8 := [lowB y, lowB (y >>> 8), lowB (y >>> 16), lowB (y >>> 24)]
theorem crcR_word (y : BitVec 32) : crcR 0#32 (wordBytes y) = crcTn 32 y := by
  have h3 : y >>> 24 >>> 8 = 0#32 := by
    rw [← BitVec.shiftRight_add]
    apply BitVec.eq_of_getLsbD_eq
    intro i hi
    rw [BitVec.getLsbD_ushiftRight, BitVec.getLsbD_of_ge y _ (by omega)]
    simp
  have e1 : y >>> 8 >>> 8 = y >>> 16 := by rw [← BitVec.shiftRight_add]
  have e2 : y >>> 16 >>> 8 = y >>> 24 := by rw [← BitVec.shiftRight_add]
  have a0 : crcTn 8 y = byteStep 0#32 (lowB y) ^^^ (y >>> 8) := by rw [← crcT8_word, BitVec.zero_xor]
  have a : crcTn 32 y = crcTn 8 (crcTn 8 (crcTn 8 (crcTn 8 y))) := (crcTn_add 8 24 y).trans (congrArg _ ((crcTn_add 8 16 y).trans (congrArg _ (crcTn_add 8 8 y))))
  rw [a, a0, crcT8_word, e1, crcT8_word, e2, crcT8_word, h3, BitVec.xor_zero]
  rfl

/-- The bytes put to a text by exclusive or, from place k on. -/
def spoil (k : Nat) (y : BitVec 32) (n : Nat) : List UInt8 := List.replicate k 0 ++ wordBytes y ++ List.replicate (n - k - 4) 0
theorem spoil_length (k n : Nat) (y : BitVec 32) (h : k + 4 ≤ n) : (spoil k y n).length = n := by
  simp [spoil, wordBytes]; omega
theorem crc_finds (bs : List UInt8) (k : Nat) (y : BitVec 32) (hy : y ≠ 0#32) (hk : k + 4 ≤ bs.length) : crcSum (List.zipWith (· ^^^ ·) bs (spoil k y bs.length)) ≠ crcSum bs := by
  intro e
  have e2 : crcR 0xffffffff#32 (List.zipWith (· ^^^ ·) bs (spoil k y bs.length)) = crcR 0xffffffff#32 bs := by
    have h1 := congrArg (fun x => ~~~ x) e
    simpa [crcSum, crcMore] using h1
  have h := crcR_xor bs (spoil k y bs.length) 0xffffffff#32 0#32 (spoil_length k _ y hk).symm
  rw [BitVec.xor_zero, e2] at h
  have h0 : crcR 0#32 (spoil k y bs.length) = 0#32 := by
    have h1 := congrArg (fun z => crcR 0xffffffff#32 bs ^^^ z) h
    simp only [← BitVec.xor_assoc, BitVec.xor_self, BitVec.zero_xor] at h1
    exact h1.symm
  rw [spoil, crcR_append, crcR_append, crcR_zeros, crcR_word] at h0
  exact crcR_zeros_ne _ _ (crcTn_ne 32 y hy) h0
theorem crc_linear (a b c : List UInt8) (hb : a.length = b.length) (hc : a.length = c.length) :
    crcSum (List.zipWith (· ^^^ ·) (List.zipWith (· ^^^ ·) a b) c) = crcSum a ^^^ crcSum b ^^^ crcSum c := by
  have h1 := crcR_xor a b 0xffffffff#32 0xffffffff#32 hb
  have h2 := crcR_xor (List.zipWith (· ^^^ ·) a b) c (0xffffffff#32 ^^^ 0xffffffff#32) 0xffffffff#32 (by simp; omega)
  rw [h1] at h2
  have hn : ∀ x : BitVec 32, ~~~ x = 0xffffffff#32 ^^^ x := fun x => by
    rw [show (0xffffffff#32 : BitVec 32) = BitVec.allOnes 32 by decide, BitVec.allOnes_xor]
  have h0 : ~~~ (0#32) = 0xffffffff#32 := by decide
  simp only [crcSum, crcMore, h0]
  rw [BitVec.xor_self, BitVec.zero_xor] at h2
  rw [h2, hn, hn (crcR _ a), hn (crcR _ b), hn (crcR _ c)]
  have : ∀ o p q r : BitVec 32, o ^^^ (p ^^^ q ^^^ r) = o ^^^ p ^^^ (o ^^^ q) ^^^ (o ^^^ r) := fun o p q r => by
    rw [show o ^^^ p ^^^ (o ^^^ q) ^^^ (o ^^^ r) = (o ^^^ o) ^^^ (o ^^^ (p ^^^ q ^^^ r)) by ac_rfl, BitVec.xor_self, BitVec.zero_xor]
  exact this _ _ _ _
/-- The program's way: byte by byte. -/
def spUp (bs : List UInt8) (k : Nat) (y : BitVec 32) : Nat → List UInt8
  | 0 => bs
  | j + 1 => (spUp bs k y j).set (k + j) ((spUp bs k y j).getD (k + j) 0 ^^^ lowB (y >>> (8 * j)))
theorem spUp_length (bs : List UInt8) (k : Nat) (y : BitVec 32) (j : Nat) : (spUp bs k y j).length = bs.length := by
  induction j with
  | zero => rfl
  | succ j ih => rw [spUp, List.length_set, ih]
theorem spUp_at (bs : List UInt8) (k : Nat) (y : BitVec 32) (j : Nat) (i : Nat) :
    (spUp bs k y j)[i]? = bs[i]?.map (fun c => if k ≤ i ∧ i < k + j then c ^^^ lowB (y >>> (8 * (i - k))) else c) := by
  induction j with
  | zero =>
    have : ¬ (k ≤ i ∧ i < k) := by omega
    simp [spUp, this]
  | succ j ih =>
    rw [spUp, List.getElem?_set]
    by_cases e : k + j = i
    · rw [if_pos e]
      rw [e, spUp_length]
      by_cases hi : i < bs.length
      · rw [if_pos hi, List.getD_eq_getElem?_getD, ih, List.getElem?_eq_getElem hi]
        have h1 : ¬ (i < k + j) := by omega
        have h2 : k ≤ i ∧ i < k + (j + 1) := by omega
        simp [h1, h2, show i - k = j by omega]
      · rw [if_neg hi, List.getElem?_eq_none (by omega)]
        rfl
    · rw [if_neg e, ih]
      by_cases h1 : k ≤ i ∧ i < k + j
      · have h2 : k ≤ i ∧ i < k + (j + 1) := by omega
        simp [h1, h2]
      · have h2 : ¬ (k ≤ i ∧ i < k + (j + 1)) := by omega
        simp [h1, h2]
theorem spUp_four (bs : List UInt8) (k : Nat) (y : BitVec 32) (hk : k + 4 ≤ bs.length) : spUp bs k y 4 = List.zipWith (· ^^^ ·) bs (spoil k y bs.length) := by
  apply List.ext_getElem?
  intro i
  rw [spUp_at, List.getElem?_zipWith]
  by_cases hi : i < bs.length
  · rw [List.getElem?_eq_getElem hi]
    have hs : (spoil k y bs.length)[i]? = some (if k ≤ i ∧ i < k + 4 then lowB (y >>> (8 * (i - k))) else 0) := by
      unfold spoil
      by_cases h1 : i < k
      · rw [List.getElem?_append_left (by simp [wordBytes]; omega), List.getElem?_append_left (by simp; omega), List.getElem?_replicate, if_pos h1, if_neg (by omega)]
      · by_cases h2 : i < k + 4
        · rw [List.getElem?_append_left (by simp [wordBytes]; omega), List.getElem?_append_right (by simp; omega), if_pos (by omega), List.length_replicate]
          have : i - k = 0 ∨ i - k = 1 ∨ i - k = 2 ∨ i - k = 3 := by omega
          rcases this with e | e | e | e <;> rw [e] <;> simp [wordBytes]
        · rw [List.getElem?_append_right (by simp [wordBytes]; omega), if_neg (by omega), List.getElem?_replicate, if_pos (by simp [wordBytes]; omega)]
    rw [hs]
    by_cases h : k ≤ i ∧ i < k + 4
    · simp [h]
    · simp [h]
  · rw [List.getElem?_eq_none (by omega)]
    rfl
/-- The number of four bytes, the lowest first. -/
def word4 (b0 b1 b2 b3 : UInt8) : BitVec 32 := BitVec.ofNat 32 (b0.toNat + b1.toNat * 256 + b2.toNat * 65536 + b3.toNat * 16777216)
theorem word4_toNat (b0 b1 b2 b3 : UInt8) : (word4 b0 b1 b2 b3).toNat = b0.toNat + b1.toNat * 256 + b2.toNat * 65536 + b3.toNat * 16777216 := by
  have d0 := b0.toNat_lt
  have d1 := b1.toNat_lt
  have d2 := b2.toNat_lt
  have d3 := b3.toNat_lt
  rw [word4, BitVec.toNat_ofNat]
  omega
theorem lowB_toNat (y : BitVec 32) (s : Nat) : (lowB (y >>> s)).toNat = y.toNat / 2 ^ s % 256 := by
  unfold lowB
  rw [UInt8.toNat_ofNat', BitVec.toNat_ushiftRight, Nat.shiftRight_eq_div_pow]
theorem lowB_toNat0 (y : BitVec 32) : (lowB y).toNat = y.toNat % 256 := by
  unfold lowB
  rw [UInt8.toNat_ofNat']
theorem wordBytes_word4 (b0 b1 b2 b3 : UInt8) : wordBytes (word4 b0 b1 b2 b3) = [b0, b1, b2, b3] := by
  have d0 := b0.toNat_lt
  have d1 := b1.toNat_lt
  have d2 := b2.toNat_lt
  have d3 := b3.toNat_lt
  have h := word4_toNat b0 b1 b2 b3
  have e0 : lowB (word4 b0 b1 b2 b3) = b0 := UInt8.toNat_inj.1 (by rw [lowB_toNat0, h]; omega)
  have e1 : lowB (word4 b0 b1 b2 b3 >>> 8) = b1 := UInt8.toNat_inj.1 (by rw [lowB_toNat, h]; omega)
  have e2 : lowB (word4 b0 b1 b2 b3 >>> 16) = b2 := UInt8.toNat_inj.1 (by rw [lowB_toNat, h]; omega)
  have e3 : lowB (word4 b0 b1 b2 b3 >>> 24) = b3 := UInt8.toNat_inj.1 (by rw [lowB_toNat, h]; omega)
  rw [wordBytes, e0, e1, e2, e3]
theorem word4_wordBytes (s : BitVec 32) : word4 (lowB s) (lowB (s >>> 8)) (lowB (s >>> 16)) (lowB (s >>> 24)) = s := by
  have hs := s.isLt
  apply BitVec.eq_of_toNat_eq
  rw [word4_toNat, lowB_toNat, lowB_toNat, lowB_toNat, lowB_toNat0]
  omega

end Go.Proofs.Ytdmiiageihbokaa
