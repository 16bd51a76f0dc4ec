/-
  RECORDS IN A ROW OF BYTES, plainly: records one behind the other, cut, spoilt.
-/
import Derived.Test.YtdmiiageihbokaaFrP
namespace Go.Proofs.Ytdmiiageihbokaa

theorem firstOf_cons (b0 b1 b2 b3 c0 c1 c2 c3 : UInt8) (rest : List UInt8) : firstOf (b0 :: b1 :: b2 :: b3 :: c0 :: c1 :: c2 :: c3 :: rest) =
    if (word4 b0 b1 b2 b3).toNat ≤ 65536 ∧ (word4 b0 b1 b2 b3).toNat ≤ rest.length then
      if word4 c0 c1 c2 c3 = crcSum ([b0, b1, b2, b3] ++ rest.take (word4 b0 b1 b2 b3).toNat) then some (rest.take (word4 b0 b1 b2 b3).toNat) else none
    else none := rfl
theorem recOf_of (b0 b1 b2 b3 c0 c1 c2 c3 : UInt8) (rest : List UInt8) (n : Nat) (hn : (word4 b0 b1 b2 b3).toNat = n) (hl : n ≤ rest.length) (hs : word4 c0 c1 c2 c3 = crcSum ([b0, b1, b2, b3] ++ rest.take n)) :
    b0 :: b1 :: b2 :: b3 :: c0 :: c1 :: c2 :: c3 :: rest = recOf (rest.take n) ++ rest.drop n := by
  have hL : lenW (rest.take n) = word4 b0 b1 b2 b3 := by
    apply BitVec.eq_of_toNat_eq
    have := (word4 b0 b1 b2 b3).isLt
    rw [lenW, BitVec.toNat_ofNat, List.length_take, Nat.min_eq_left hl, hn, Nat.mod_eq_of_lt (by omega)]
  rw [recOf, hL, wordBytes_word4, ← hs, wordBytes_word4]
  simp
theorem firstOf_eq {row p : List UInt8} (h : firstOf row = some p) : ∃ rest, row = recOf p ++ rest := by
  have hl := (firstOf_len h).1
  match row, hl, h with
  | b0 :: b1 :: b2 :: b3 :: c0 :: c1 :: c2 :: c3 :: rest, _, h =>
    rw [firstOf_cons] at h
    obtain ⟨n, hn⟩ : ∃ n, (word4 b0 b1 b2 b3).toNat = n := ⟨_, rfl⟩
    rw [hn] at h
    by_cases hc : n ≤ 65536 ∧ n ≤ rest.length
    · rw [if_pos hc] at h
      by_cases hs : word4 c0 c1 c2 c3 = crcSum ([b0, b1, b2, b3] ++ rest.take n)
      · rw [if_pos hs] at h
        injection h with h
        rw [← h]
        exact ⟨_, recOf_of b0 b1 b2 b3 c0 c1 c2 c3 rest n hn hc.2 hs⟩
      · rw [if_neg hs] at h
        cases h
    · rw [if_neg hc] at h
      cases h
  | [], hl, _ => simp at hl
  | [_], hl, _ => simp at hl; omega
  | [_, _], hl, _ => simp at hl; omega
  | [_, _, _], hl, _ => simp at hl; omega
  | [_, _, _, _], hl, _ => simp at hl; omega
  | [_, _, _, _, _], hl, _ => simp at hl; omega
  | [_, _, _, _, _, _], hl, _ => simp at hl; omega
  | [_, _, _, _, _, _, _], hl, _ => simp at hl; omega
theorem firstOf_take (row : List UInt8) (j : Nat) : firstOf (row.take j) = (firstOf row).bind fun p => if 8 + p.length ≤ j then some p else none := by
  cases h : firstOf (row.take j) with
  | some q =>
    obtain ⟨rest, hr⟩ := firstOf_eq h
    have hl := firstOf_len h
    have hrow : row = recOf q ++ (rest ++ row.drop j) := by
      conv => lhs; rw [← List.take_append_drop j row, hr]
      simp
    have h2 : firstOf row = some q := by rw [hrow]; exact firstOf_rec q _ hl.2
    have h3 : 8 + q.length ≤ j := by have := hl.1; simp at this; omega
    rw [h2]
    simp [h3]
  | none =>
    cases h2 : firstOf row with
    | none => rfl
    | some p =>
      have hl := firstOf_len h2
      by_cases hj : 8 + p.length ≤ j
      · obtain ⟨rest, hr⟩ := firstOf_eq h2
        have : row.take j = recOf p ++ rest.take (j - (8 + p.length)) := by
          rw [hr, List.take_append, recOf_len, List.take_of_length_le (by rw [recOf_len]; exact hj)]
        rw [this, firstOf_rec p _ hl.2] at h
        cases h
      · simp [hj]

/-- Records, one behind the other. -/
def recs (ps : List (List UInt8)) : List UInt8 := (ps.map recOf).flatten
def recsLen (ps : List (List UInt8)) : Nat := (ps.map fun p => 8 + p.length).sum
theorem recs_len (ps : List (List UInt8)) : (recs ps).length = recsLen ps := by
  induction ps with
  | nil => rfl
  | cons p ps ih => simp only [recs, recsLen, List.map_cons, List.flatten_cons, List.length_append, List.sum_cons, recOf_len] at ih ⊢; rw [ih]
theorem recs_cons (p : List UInt8) (ps : List (List UInt8)) : recs (p :: ps) = recOf p ++ recs ps := by simp [recs]
theorem recs_snoc (p : List UInt8) (ps : List (List UInt8)) : recs (ps ++ [p]) = recs ps ++ recOf p := by simp [recs]
theorem recsLen_cons (p : List UInt8) (ps : List (List UInt8)) : recsLen (p :: ps) = 8 + p.length + recsLen ps := by simp [recsLen]
theorem recsLen_snoc (p : List UInt8) (ps : List (List UInt8)) : recsLen (ps ++ [p]) = recsLen ps + (8 + p.length) := by simp [recsLen]
/-- .. and where each begins. -/
def frs (a : Nat) : List (List UInt8) → List (Nat × List UInt8)
  | [] => []
  | p :: ps => (a, p) :: frs (a + (8 + p.length)) ps
theorem frs_length (a : Nat) (ps : List (List UInt8)) : (frs a ps).length = ps.length := by
  induction ps generalizing a with
  | nil => rfl
  | cons p ps ih => simp [frs, ih]
theorem frs_at : ∀ (ps : List (List UInt8)) (a k : Nat) (p : List UInt8), ps[k]? = some p → (frs a ps)[k]? = some (a + recsLen (ps.take k), p) := by
  intro ps
  induction ps with
  | nil => intro a k p h; simp at h
  | cons q ps ih =>
    intro a k p h
    cases k with
    | zero => simp at h; subst h; simp [frs, recsLen]
    | succ k =>
      simp only [List.getElem?_cons_succ] at h
      rw [frs, List.getElem?_cons_succ, ih _ _ _ h, List.take_succ_cons, recsLen_cons]
      congr 2
      omega
theorem frs_offs : ∀ (ps : List (List UInt8)) (a k : Nat), offs (frs a ps) k = recsLen (ps.take k) := by
  intro ps
  induction ps with
  | nil => intro a k; simp [frs, offs, recsLen]
  | cons q ps ih =>
    intro a k
    cases k with
    | zero => simp [offs, recsLen]
    | succ k => rw [frs, offs_cons, ih, List.take_succ_cons, recsLen_cons]
theorem framesF_rec (f a : Nat) (p rest : List UInt8) (hp : p.length ≤ 65536) (hf : (recOf p ++ rest).length ≤ f) : framesF f a (recOf p ++ rest) = (a, p) :: framesF f (a + (8 + p.length)) rest := by
  have hl : (recOf p ++ rest).length = 8 + p.length + rest.length := by rw [List.length_append, recOf_len]
  cases f with
  | zero => omega
  | succ f =>
    rw [framesF, firstOf_rec p rest hp]
    simp only
    rw [show (recOf p ++ rest).drop (8 + p.length) = rest by rw [← recOf_len p, List.drop_left]]
    rw [framesF_fuel f (f + 1) _ rest (by omega) (by omega)]
theorem framesF_recs : ∀ (ps : List (List UInt8)) (f a : Nat) (rest : List UInt8), (∀ p ∈ ps, p.length ≤ 65536) → (recs ps ++ rest).length ≤ f → framesF f a (recs ps ++ rest) = frs a ps ++ framesF f (a + recsLen ps) rest := by
  intro ps
  induction ps with
  | nil => intro f a rest _ _; simp [recs, frs, recsLen]
  | cons p ps ih =>
    intro f a rest hp hf
    rw [recs_cons, List.append_assoc] at hf ⊢
    rw [framesF_rec f a p _ (hp p (by simp)) hf, ih f _ rest (fun q hq => hp q (by simp [hq])) (by rw [List.length_append] at hf; omega), frs, recsLen_cons]
    simp only [List.cons_append]
    congr 3
    omega
theorem frames_eq {row : List UInt8} {f : Nat} (h : row.length ≤ f) : frames row = framesF f 0 row := framesF_fuel _ _ _ _ (Nat.le_refl _) h
/-- Moved by a. -/
theorem framesF_shift : ∀ (f a b : Nat) (row : List UInt8), framesF f (a + b) row = (framesF f b row).map fun x => (a + x.1, x.2) := by
  intro f
  induction f with
  | zero => intro a b row; rfl
  | succ f ih =>
    intro a b row
    rw [framesF, framesF]
    cases firstOf row with
    | none => rfl
    | some p =>
      simp only [List.map_cons]
      rw [Nat.add_assoc, ih]
theorem offs_map (fr : List (Nat × List UInt8)) (a k : Nat) : offs (fr.map fun x => (a + x.1, x.2)) k = offs fr k := by
  simp [offs, ← List.map_take, Function.comp_def]
theorem offs_all (fr gr : List (Nat × List UInt8)) : offs (fr ++ gr) (fr ++ gr).length = offs fr fr.length + offs gr gr.length := by
  unfold offs
  rw [List.take_length, List.take_length, List.take_length]
  simp
theorem frames_join (ps : List (List UInt8)) (rest : List UInt8) (hp : ∀ p ∈ ps, p.length ≤ 65536) :
    (frames (recs ps ++ rest)).length = ps.length + (frames rest).length ∧ wholeOf (recs ps ++ rest) = recsLen ps + wholeOf rest := by
  have h := framesF_recs ps _ 0 rest hp (Nat.le_refl _)
  rw [← frames_eq (Nat.le_refl _), Nat.zero_add] at h
  have hr : framesF (recs ps ++ rest).length (recsLen ps) rest = (frames rest).map fun x => (recsLen ps + x.1, x.2) := by
    have := framesF_shift (recs ps ++ rest).length (recsLen ps) 0 rest
    rw [Nat.add_zero] at this
    rw [this, ← frames_eq (by simp)]
  rw [hr] at h
  constructor
  · rw [h]; simp [frs_length]
  · rw [wholeOf, h, offs_all, frs_offs, List.length_map, offs_map, frs_length, List.take_length]
    rfl
theorem frames_recs (ps : List (List UInt8)) (hp : ∀ p ∈ ps, p.length ≤ 65536) : frames (recs ps) = frs 0 ps := by
  have h := framesF_recs ps _ 0 [] hp (Nat.le_refl _)
  rw [← frames_eq (Nat.le_refl _), List.append_nil] at h
  rw [h]
  have : ∀ f a, framesF f a [] = [] := by intro f a; cases f <;> rfl
  rw [this, List.append_nil]
/-- Of a row that is cut the whole records ahead of the cut are left. -/
theorem framesF_cut : ∀ (ps : List (List UInt8)) (f a j k : Nat), (∀ p ∈ ps, p.length ≤ 65536) → ((recs ps).take j).length ≤ f → k ≤ ps.length → recsLen (ps.take k) ≤ j → (k = ps.length ∨ j < recsLen (ps.take (k + 1))) →
    framesF f a ((recs ps).take j) = frs a (ps.take k) := by
  intro ps
  induction ps with
  | nil => intro f a j k _ _ _ _ _; cases f <;> simp [recs, frs, framesF, firstOf]
  | cons p ps ih =>
    intro f a j k hp hf hk h1 h2
    cases k with
    | zero =>
      rcases h2 with h2 | h2
      · simp at h2
      · simp only [List.take_succ_cons, List.take_zero, recsLen, List.map_cons, List.map_nil, List.sum_cons, List.sum_nil] at h2
        have hn : firstOf ((recs (p :: ps)).take j) = none := by
          rw [firstOf_take, recs_cons, firstOf_rec p _ (hp p (by simp))]
          simp; omega
        cases f with
        | zero => rfl
        | succ f => rw [framesF, hn]; rfl
    | succ k =>
      rw [List.take_succ_cons, recsLen_cons] at h1
      have ht : (recs (p :: ps)).take j = recOf p ++ (recs ps).take (j - (8 + p.length)) := by
        rw [recs_cons, List.take_append, recOf_len, List.take_of_length_le (by rw [recOf_len]; omega)]
      rw [ht] at hf ⊢
      rw [framesF_rec f a p _ (hp p (by simp)) hf, List.take_succ_cons, frs, ih f _ _ k (fun q hq => hp q (by simp [hq])) (by rw [List.length_append] at hf; omega) (by simp at hk; omega) (by omega) (by
        rcases h2 with h2 | h2
        · left; simp at h2; exact h2
        · right; rw [List.take_succ_cons, recsLen_cons] at h2; omega)]
theorem frames_cut (ps : List (List UInt8)) (j k : Nat) (hp : ∀ p ∈ ps, p.length ≤ 65536) (hk : k ≤ ps.length) (h1 : recsLen (ps.take k) ≤ j) (h2 : k = ps.length ∨ j < recsLen (ps.take (k + 1))) :
    frames ((recs ps).take j) = frs 0 (ps.take k) := framesF_cut ps _ 0 j k hp (Nat.le_refl _) hk h1 h2
theorem whole_frs (ps : List (List UInt8)) {row : List UInt8} (h : frames row = frs 0 ps) : wholeOf row = recsLen ps := by
  rw [wholeOf, h, frs_offs, frs_length, List.take_length]
/-- What is whole of a row has the same records. -/
theorem framesF_whole : ∀ (f a : Nat) (row : List UInt8), row.length ≤ f → framesF f a (row.take (offs (framesF f a row) (framesF f a row).length)) = framesF f a row := by
  intro f
  induction f with
  | zero => intro a row _; rfl
  | succ f ih =>
    intro a row hf
    cases h : firstOf row with
    | none =>
      have : framesF (f + 1) a row = [] := by rw [framesF, h]
      rw [this]
      simp [offs, framesF, firstOf]
    | some p =>
      have hl := firstOf_len h
      have hF : framesF (f + 1) a row = (a, p) :: framesF f (a + (8 + p.length)) (row.drop (8 + p.length)) := by rw [framesF, h]
      have hi := ih (a + (8 + p.length)) (row.drop (8 + p.length)) (by simp; omega)
      rw [hF, List.length_cons, offs_cons]
      obtain ⟨o, ho⟩ : ∃ o, o = offs (framesF f (a + (8 + p.length)) (row.drop (8 + p.length))) (framesF f (a + (8 + p.length)) (row.drop (8 + p.length))).length := ⟨_, rfl⟩
      rw [← ho] at hi ⊢
      have hfirst : firstOf (row.take (8 + p.length + o)) = some p := by rw [firstOf_take, h]; simp
      rw [framesF, hfirst]
      simp only
      rw [List.drop_take, show 8 + p.length + o - (8 + p.length) = o by omega, hi]
theorem frames_whole (row : List UInt8) : frames (row.take (wholeOf row)) = frames row := by
  have h := framesF_whole row.length 0 row (Nat.le_refl _)
  rw [frames_eq (f := row.length) (by simp; omega)]
  exact h
theorem whole_whole (row : List UInt8) : wholeOf (row.take (wholeOf row)) = wholeOf row := by
  have h := frames_whole row
  unfold wholeOf at h ⊢
  rw [h]

/-- One byte changed is found. -/
theorem crc_byte (L : List UInt8) (x y : List UInt8) (c b : UInt8) (hb : b ≠ 0) : crcSum (L ++ (x ++ (c ^^^ b) :: y)) ≠ crcSum (L ++ (x ++ c :: y)) := by
  intro e
  have hz : ∀ l : List UInt8, List.zipWith (· ^^^ ·) l (List.replicate l.length 0) = l := by
    intro l
    induction l with
    | nil => rfl
    | cons a l ih => simp [List.replicate_succ, ih]
  have hsp : List.zipWith (· ^^^ ·) (L ++ (x ++ c :: y)) (List.replicate (L ++ x).length 0 ++ b :: List.replicate y.length 0) = L ++ (x ++ (c ^^^ b) :: y) := by
    rw [← List.append_assoc, List.zipWith_append (by simp), hz, List.zipWith_cons_cons, hz, List.append_assoc]
  have hlen : (L ++ (x ++ c :: y)).length = (List.replicate (L ++ x).length (0 : UInt8) ++ b :: List.replicate y.length 0).length := by simp; omega
  have e2 : crcR 0xffffffff#32 (L ++ (x ++ (c ^^^ b) :: y)) = crcR 0xffffffff#32 (L ++ (x ++ c :: y)) := by
    have h1 := congrArg (fun x => ~~~ x) e
    simpa [crcSum, crcMore] using h1
  have h := crcR_xor (L ++ (x ++ c :: y)) _ 0xffffffff#32 0#32 hlen
  rw [hsp, BitVec.xor_zero, e2] at h
  have h0 : crcR 0#32 (List.replicate (L ++ x).length 0 ++ b :: List.replicate y.length 0) = 0#32 := by
    have h1 := congrArg (fun z => crcR 0xffffffff#32 (L ++ (x ++ c :: y)) ^^^ z) h
    simp only [← BitVec.xor_assoc, BitVec.xor_self, BitVec.zero_xor] at h1
    exact h1.symm
  rw [crcR_append, crcR_zeros] at h0
  refine crcR_zeros_ne y.length (byteStep 0#32 b) ?_ h0
  rw [byteStep_T, BitVec.zero_xor]
  refine crcTn_ne 8 _ fun hw => hb ?_
  have : (byteW b).toNat = 0 := by rw [hw]; rfl
  unfold byteW at this
  rw [BitVec.toNat_ofNat, Nat.mod_eq_of_lt (by have := b.toNat_lt; omega)] at this
  exact UInt8.toNat_inj.1 this
theorem first_spoilt (p : List UInt8) (x y rest : List UInt8) (c b : UInt8) (hb : b ≠ 0) (hp : p = x ++ c :: y) (hl : p.length ≤ 65536) :
    firstOf (wordBytes (lenW p) ++ wordBytes (crcSum (wordBytes (lenW p) ++ p)) ++ (x ++ (c ^^^ b) :: y) ++ rest) = none := by
  have hw : (word4 (lowB (lenW p)) (lowB (lenW p >>> 8)) (lowB (lenW p >>> 16)) (lowB (lenW p >>> 24))).toNat = (x ++ (c ^^^ b) :: y).length := by
    rw [word4_wordBytes, lenW, BitVec.toNat_ofNat, hp]
    rw [hp] at hl
    simp at hl ⊢
    omega
  show (if (word4 (lowB (lenW p)) (lowB (lenW p >>> 8)) (lowB (lenW p >>> 16)) (lowB (lenW p >>> 24))).toNat ≤ 65536 ∧ (word4 (lowB (lenW p)) (lowB (lenW p >>> 8)) (lowB (lenW p >>> 16)) (lowB (lenW p >>> 24))).toNat ≤ (x ++ (c ^^^ b) :: y ++ rest).length then
    if word4 _ _ _ _ = crcSum ([lowB (lenW p), lowB (lenW p >>> 8), lowB (lenW p >>> 16), lowB (lenW p >>> 24)] ++ (x ++ (c ^^^ b) :: y ++ rest).take (word4 (lowB (lenW p)) (lowB (lenW p >>> 8)) (lowB (lenW p >>> 16)) (lowB (lenW p >>> 24))).toNat) then _ else none else none) = _
  rw [hw, List.take_left, word4_wordBytes]
  split
  · rw [if_neg]
    intro e
    refine crc_byte (wordBytes (lenW p)) x y c b hb ?_
    rw [← hp]
    exact e.symm
  · rfl
end Go.Proofs.Ytdmiiageihbokaa
