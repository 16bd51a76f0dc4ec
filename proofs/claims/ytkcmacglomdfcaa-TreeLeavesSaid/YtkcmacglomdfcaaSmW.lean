/-
  A TEXT FILLED UP, AND ITS DIGEST, plainly (words of 32 bits).
-/
import Derived.Test.YtkcmacglomdfcaaSmD32
import Derived.Test.YtkcmacglomdfcaaSmU
import Derived.Test.YtkcmacglomdfcaaSmD64
import Derived.Test.YtkcmacglomdfcaaSlices
namespace Go.Proofs.Ytkcmacglomdfcaa
open Go.RowKit

/-- How many zeros stand behind the mark. -/
def zc32 (n : Nat) : Nat := (2 * 64 - 8 - 1 - n % 64) % 64
theorem zc32_lt (n : Nat) : zc32 n < 64 := Nat.mod_lt _ (by decide)
theorem zc32_mod (n j : Nat) (hj : j ≤ zc32 n) : (n + 1 + j) % 64 = 64 - 8 ↔ j = zc32 n := by
  unfold zc32 at *
  omega
/-- Byte number i of the length in bits, from the lowest one. -/
def lenB32 (n i : Nat) : UInt8 :=
  if 9 ≤ i then 0 else if i = 8 then UInt8.ofNat ((BitVec.ofNat 64 n) >>> 61).toNat else UInt8.ofNat (((BitVec.ofNat 64 n) <<< 3) >>> (8 * i)).toNat
def tailB32 (n : Nat) : Nat → List UInt8
  | 0 => []
  | j + 1 => tailB32 n j ++ [lenB32 n (8 - 1 - j)]
theorem tailB32_len (n j : Nat) : (tailB32 n j).length = j := by
  induction j with
  | zero => rfl
  | succ j ih => simp [tailB32, ih]
def padded32 (text : List UInt8) : List UInt8 := text ++ [128] ++ List.replicate (zc32 text.length) 0 ++ tailB32 text.length 8
def cnt32 (n : Nat) : Nat := (n + 1 + zc32 n + 8) / 64
theorem padded32_len (text : List UInt8) : (padded32 text).length = cnt32 text.length * 64 := by
  simp only [padded32, List.length_append, List.length_replicate, tailB32_len, List.length_cons, List.length_nil, cnt32]
  have := zc32_mod text.length (zc32 text.length) (Nat.le_refl _)
  have h := this.2 rfl
  omega
def pieces32 (K : List (BitVec 32)) (s : St32) (bs : List UInt8) : Nat → St32
  | 0 => s
  | k + 1 => pieceSt32 K (pieces32 K s bs k) (chunkOf bs 64 k)
/-- A word's bytes, the highest first: the first j of them. -/
def wordB32 (x : BitVec 32) : Nat → List UInt8
  | 0 => []
  | j + 1 => wordB32 x j ++ [UInt8.ofNat (x >>> (32 - 8 - 8 * j)).toNat]
theorem wordB32_len (x : BitVec 32) (j : Nat) : (wordB32 x j).length = j := by
  induction j with
  | zero => rfl
  | succ j ih => simp [wordB32, ih]
def words832 (s : St32) : List (BitVec 32) := [s.a, s.b, s.c, s.d, s.e, s.f, s.g, s.h]
def out32 (s : St32) (k : Nat) : List UInt8 := ((words832 s).take k).flatMap fun x => wordB32 x 4
def digest32 (K : List (BitVec 32)) (s0 : St32) (text : List UInt8) : List UInt8 := out32 (pieces32 K s0 (padded32 text) (cnt32 text.length)) 8
end Go.Proofs.Ytkcmacglomdfcaa

/-
  A TEXT FILLED UP, AND ITS DIGEST, plainly (words of 64 bits).
-/
namespace Go.Proofs.Ytkcmacglomdfcaa
open Go.RowKit

/-- How many zeros stand behind the mark. -/
def zc64 (n : Nat) : Nat := (2 * 128 - 16 - 1 - n % 128) % 128
theorem zc64_lt (n : Nat) : zc64 n < 128 := Nat.mod_lt _ (by decide)
theorem zc64_mod (n j : Nat) (hj : j ≤ zc64 n) : (n + 1 + j) % 128 = 128 - 16 ↔ j = zc64 n := by
  unfold zc64 at *
  omega
/-- Byte number i of the length in bits, from the lowest one. -/
def lenB64 (n i : Nat) : UInt8 :=
  if 9 ≤ i then 0 else if i = 8 then UInt8.ofNat ((BitVec.ofNat 64 n) >>> 61).toNat else UInt8.ofNat (((BitVec.ofNat 64 n) <<< 3) >>> (8 * i)).toNat
def tailB64 (n : Nat) : Nat → List UInt8
  | 0 => []
  | j + 1 => tailB64 n j ++ [lenB64 n (16 - 1 - j)]
theorem tailB64_len (n j : Nat) : (tailB64 n j).length = j := by
  induction j with
  | zero => rfl
  | succ j ih => simp [tailB64, ih]
def padded64 (text : List UInt8) : List UInt8 := text ++ [128] ++ List.replicate (zc64 text.length) 0 ++ tailB64 text.length 16
def cnt64 (n : Nat) : Nat := (n + 1 + zc64 n + 16) / 128
theorem padded64_len (text : List UInt8) : (padded64 text).length = cnt64 text.length * 128 := by
  simp only [padded64, List.length_append, List.length_replicate, tailB64_len, List.length_cons, List.length_nil, cnt64]
  have := zc64_mod text.length (zc64 text.length) (Nat.le_refl _)
  have h := this.2 rfl
  omega
def pieces64 (K : List (BitVec 64)) (s : St64) (bs : List UInt8) : Nat → St64
  | 0 => s
  | k + 1 => pieceSt64 K (pieces64 K s bs k) (chunkOf bs 128 k)
/-- A word's bytes, the highest first: the first j of them. -/
def wordB64 (x : BitVec 64) : Nat → List UInt8
  | 0 => []
  | j + 1 => wordB64 x j ++ [UInt8.ofNat (x >>> (64 - 8 - 8 * j)).toNat]
theorem wordB64_len (x : BitVec 64) (j : Nat) : (wordB64 x j).length = j := by
  induction j with
  | zero => rfl
  | succ j ih => simp [wordB64, ih]
def words864 (s : St64) : List (BitVec 64) := [s.a, s.b, s.c, s.d, s.e, s.f, s.g, s.h]
def out64 (s : St64) (k : Nat) : List UInt8 := ((words864 s).take k).flatMap fun x => wordB64 x 8
def digest64 (K : List (BitVec 64)) (s0 : St64) (text : List UInt8) : List UInt8 := out64 (pieces64 K s0 (padded64 text) (cnt64 text.length)) 8
end Go.Proofs.Ytkcmacglomdfcaa

/-
  THE WALK of a digest (words of 32 bits).
-/
namespace Go.Proofs.Ytkcmacglomdfcaa
open Go.RowKit Go.Shelf
attribute [local go_sem] Oper.semAt_some

theorem index832 (u : St32) (k : Nat) (hk : k < 8) (w : World) : (Instr.index 102 (.agg #[V32 u.a, V32 u.b, V32 u.c, V32 u.d, V32 u.e, V32 u.f, V32 u.g, V32 u.h]) (.int .i64 (k : Int))).run Try.prog w = .ok (V32 ((words832 u).getD k 0)) w := by
  match k, hk with
  | 0, _ =>
    have i0 : ∀ w, (Instr.index 102 (.agg #[V32 u.a, V32 u.b, V32 u.c, V32 u.d, V32 u.e, V32 u.f, V32 u.g, V32 u.h]) (.int .i64 0)).run Try.prog w = .ok (V32 u.a) w := fun _ => by kernel_rfl
    exact i0 w
  | 1, _ =>
    have i0 : ∀ w, (Instr.index 102 (.agg #[V32 u.a, V32 u.b, V32 u.c, V32 u.d, V32 u.e, V32 u.f, V32 u.g, V32 u.h]) (.int .i64 1)).run Try.prog w = .ok (V32 u.b) w := fun _ => by kernel_rfl
    exact i0 w
  | 2, _ =>
    have i0 : ∀ w, (Instr.index 102 (.agg #[V32 u.a, V32 u.b, V32 u.c, V32 u.d, V32 u.e, V32 u.f, V32 u.g, V32 u.h]) (.int .i64 2)).run Try.prog w = .ok (V32 u.c) w := fun _ => by kernel_rfl
    exact i0 w
  | 3, _ =>
    have i0 : ∀ w, (Instr.index 102 (.agg #[V32 u.a, V32 u.b, V32 u.c, V32 u.d, V32 u.e, V32 u.f, V32 u.g, V32 u.h]) (.int .i64 3)).run Try.prog w = .ok (V32 u.d) w := fun _ => by kernel_rfl
    exact i0 w
  | 4, _ =>
    have i0 : ∀ w, (Instr.index 102 (.agg #[V32 u.a, V32 u.b, V32 u.c, V32 u.d, V32 u.e, V32 u.f, V32 u.g, V32 u.h]) (.int .i64 4)).run Try.prog w = .ok (V32 u.e) w := fun _ => by kernel_rfl
    exact i0 w
  | 5, _ =>
    have i0 : ∀ w, (Instr.index 102 (.agg #[V32 u.a, V32 u.b, V32 u.c, V32 u.d, V32 u.e, V32 u.f, V32 u.g, V32 u.h]) (.int .i64 5)).run Try.prog w = .ok (V32 u.f) w := fun _ => by kernel_rfl
    exact i0 w
  | 6, _ =>
    have i0 : ∀ w, (Instr.index 102 (.agg #[V32 u.a, V32 u.b, V32 u.c, V32 u.d, V32 u.e, V32 u.f, V32 u.g, V32 u.h]) (.int .i64 6)).run Try.prog w = .ok (V32 u.g) w := fun _ => by kernel_rfl
    exact i0 w
  | 7, _ =>
    have i0 : ∀ w, (Instr.index 102 (.agg #[V32 u.a, V32 u.b, V32 u.c, V32 u.d, V32 u.e, V32 u.f, V32 u.g, V32 u.h]) (.int .i64 7)).run Try.prog w = .ok (V32 u.h) w := fun _ => by kernel_rfl
    exact i0 w
  | n + 8, h => omega
theorem out32_succ (u : St32) (k : Nat) (hk : k < 8) : out32 u (k + 1) = out32 u k ++ wordB32 ((words832 u).getD k 0) 4 := by
  have h : (words832 u)[k]? = some ((words832 u).getD k 0) := by rw [List.getD_eq_getElem?_getD, List.getElem?_eq_getElem (by simpa [words832] using hk)]; rfl
  rw [out32, take_snoc h, List.flatMap_append, out32]
  simp
theorem out32_len (u : St32) : ∀ k, k ≤ 8 → (out32 u k).length = k * 4 := by
  intro k
  induction k with
  | zero => intro _; rfl
  | succ k ih => intro hk; rw [out32_succ u k hk, List.length_append, ih (by omega), wordB32_len]; omega
theorem own_notObj32 {w : World} {B : Nat} {e : TypeId} {s : Nat} {v : Value} {n : Nat} {xs : List Value} (h : w.ownsRow B e s v n xs) {D : Nat} {o : Obj} (hD : w.heap[D]? = some o) (ho : o.isCells = false) : v.ownBlock ≠ some D := by
  intro hv
  rcases h.2 with ⟨rfl, _⟩ | ⟨g, cap, cur, rfl, hg, hh, r⟩
  · simp [Value.ownBlock] at hv
  · simp [Value.ownBlock] at hv
    rw [hv, hD] at hh
    cases hh
    cases ho
theorem isCells_of {w : World} {a : Addr} {v : Value} {o : Obj} (hc : w.cell? a = some v) (ho : w.heap[a.block]? = some o) : o.isCells = true := by
  simp only [World.cell?, ho] at hc
  cases o <;> simp_all [Obj.isCells]
/-- Between two rounds over the pieces. -/
structure DigIn32 (w5 : World) (At : Option Addr) (Lx ct : Nat) (u : St32) (W : World) : Prop where
  below : Below w5.heap.size w5 W
  sz : w5.heap.size + 3 ≤ W.heap.size
  st : W.rangeAt w5.heap.size 0 (cells32 u)
  th : W.there w5.heap.size 0 (cells32 u).toArray.size
  cb : W.heap[w5.heap.size + 1]? = some (.cells #[.slice At Lx ct] 22 (0, 0))
  nb : W.heap[w5.heap.size + 2]? = some (.cells #[.int .i64 64] 3 (0, 0))
theorem DigIn32.stable {w5 W W' : World} {At : Option Addr} {Lx ct : Nat} {st : St32} (h : DigIn32 w5 At Lx ct st W) (hb : Below W.heap.size W W') : DigIn32 w5 At Lx ct st W' :=
  ⟨h.below.trans (hb.mono h.below.size), Nat.le_trans h.sz hb.size, rangeAt_below h.st hb, there_same h.th (hb.block _ (by have := h.sz; omega)), heap_below h.cb hb, heap_below h.nb hb⟩
theorem DigIn32.abides {w5 W : World} {At : Option Addr} {Lx ct l : Nat} {st : St32} {o : Obj} (h : DigIn32 w5 At Lx ct st W) (hl : w5.heap.size ≤ l) (o' : Obj) (ho : W.heap[l]? = some o) (hoc : o.isCells = false) : DigIn32 w5 At Lx ct st (W.putObj l o') := by
  have hne : w5.heap.size ≠ l := by
    rintro rfl
    have := isCells_of (a := ⟨w5.heap.size, 0, none⟩) (by simpa using h.st 0 _ rfl) ho
    rw [this] at hoc
    cases hoc
  have hb : (W.putObj l o').heap[w5.heap.size]? = W.heap[w5.heap.size]? := World.putObj_heap_other hne
  exact ⟨below_putObj W l o' h.below hl h.below.size, by have := h.sz; simpa [World.putObj] using this, rangeAt_same h.st hb, there_same h.th hb, heap_putObj h.cb o' ho hoc, heap_putObj h.nb o' ho hoc⟩
theorem DigIn32.step {w5 W W' : World} {At : Option Addr} {Lx ct : Nat} {st st' : St32} (h : DigIn32 w5 At Lx ct st W) (hg : W.grownBy W' (some w5.heap.size)) (hs : W'.heap.size = W.heap.size) (hr : W'.rangeAt w5.heap.size 0 (cells32 st')) (ht : W'.there w5.heap.size 0 (cells32 st').toArray.size) :
    DigIn32 w5 At Lx ct st' W' ∧ KeepsOthers W W' ∧ ChKp w5.heap.size (w5.heap.size + 1) (w5.heap.size + 2) W W' := by
  have hsz := h.sz
  have cb := (hg.block (w5.heap.size + 1) (by omega) (by simp)).trans h.cb
  have nb := (hg.block (w5.heap.size + 2) (by omega) (by simp)).trans h.nb
  refine ⟨⟨h.below.grown hg h.below.size (fun g e => by cases e; exact Nat.le_refl _), by omega, hr, ht, cb, nb⟩, KeepsOthers.of_grownBy hg (fun j o e ho => ?_), (Below.refl _ W).grown hg h.below.size (fun g e => by cases e; exact Nat.le_refl _), ?_, ?_⟩
  · cases e
    exact isCells_of (a := ⟨w5.heap.size, 0, none⟩) (by simpa using h.st 0 _ rfl) ho
  · rw [cell_of_row _ _ _ _ _ _ cb, cell_of_row _ _ _ _ _ _ h.cb]
  · rw [cell_of_row _ _ _ _ _ _ nb, cell_of_row _ _ _ _ _ _ h.nb]
def lenV32 : Value → Nat
  | .slice _ n _ => n
  | _ => 0
set_option maxRecDepth 100000 in
set_option maxHeartbeats 4000000 in
theorem digest32_any (w : World) (b gT cT : Nat) (K : List (BitVec 32)) (hsh : Shape32 w b gT cT K) (s0 : St32) (hf : w.rangeAt b 2 (cells32 s0)) (v : Value) (ps : List (List UInt8)) (hv : SBs w v ps) (hn : ps.flatten.length ≤ 70368744177664) :
    Calls Try.prog 77 #[.pointer (some ⟨b, 0, none⟩), v] w fun e w' => ∃ v, e = .returned v ∧ w'.ownsRow w.heap.size 5 1 v (digest32 K s0 ps.flatten).length ((digest32 K s0 ps.flatten).map B8) ∧ Below w.heap.size w w' := by
  obtain ⟨text, htx⟩ : ∃ text, text = ps.flatten := ⟨_, rfl⟩
  have hv' := hv
  obtain ⟨vs, ⟨A, n0, c0, rfl, h1, h2, h3⟩, hl, hp⟩ := hv'
  clear h1 h2 h3 hl hp
  have hblt : b < w.heap.size := World.block_lt_of_cell? w ⟨b, 0, none⟩ hsh.bits
  refine (callsIn_wide (n := 9)).1 ?_
  refine callsIn_of_wp_marks Try.func77 rfl trivial ?_ rfl
  rw [wpIn_wide]
  simp only [Try.ntmps77, List.size_toArray, List.length_cons, List.length_nil, Nat.reduceAdd, Nat.reduceSub, Array.replicate_succ, Array.replicate_zero, List.push_toArray, List.append_toArray, List.nil_append, List.cons_append]
  rw [← htx] at hn ⊢
  have Htx := Lib.hid htx
  clear htx
  obtain ⟨W1, hW1⟩ : ∃ W1, W1 = w.alloc (.cells #[.pointer (some ⟨b, 0, none⟩)] 97) := ⟨_, rfl⟩
  have hW1b : Below w.heap.size w W1 := by rw [hW1]; exact (Below.refl _ _).alloc (Nat.le_refl _) _
  have hW1s : W1.heap.size = w.heap.size + 1 := by rw [hW1]; simp
  have hW1p : W1.heap[w.heap.size]? = some (.cells #[.pointer (some ⟨b, 0, none⟩)] 97 (0, 0)) := by rw [hW1]; exact heap_alloc_new w _
  have hvA : SBs W1 (.slice A n0 c0) ps := hv.below hW1b
  go_wp2_with fail
  rw [← hW1]
  refine (concat_any _ _ ps hvA (by rw [← Htx.out]; omega)).mono ?_
  rintro e w1 ⟨v1, rfl, hown, hb1⟩
  rw [← Htx.out] at hown
  obtain ⟨n, hn'⟩ : ∃ n, n = text.length := ⟨_, rfl⟩
  rw [← hn'] at hn hown
  obtain ⟨A1, c1, rfl, hc1, hcm1, -, -⟩ := own_form hown
  have kept : ∀ W, Below W1.heap.size W1 W → W.cell? ⟨w.heap.size, 0, none⟩ = some (.pointer (some ⟨b, 0, none⟩)) ∧ W.cell? ⟨b, 0, none⟩ = some (.int .i64 32) ∧ W.cell? ⟨b, 22, none⟩ = some (.int .i64 8) ∧ Shape32 W b gT cT K ∧ W.rangeAt b 2 (cells32 s0) := by
    intro W hb
    have hs := (hsh.below hW1b).below hb
    refine ⟨(hb.cell (p := ⟨w.heap.size, 0, none⟩) (by show w.heap.size < W1.heap.size; omega)).trans (by rw [cell_of_row _ _ _ _ _ _ hW1p]; rfl), hs.bits, hs.len, hs, fun j v hv => ?_⟩
    exact ((hW1b.trans (hb.mono hW1b.size)).cell (p := ⟨b, 2 + j, none⟩) hblt).trans (hf j v hv)
  have Kept := Lib.hid kept
  have HW1b := Lib.hid hW1b
  have HW1s := Lib.hid hW1s
  have Hn' := Lib.hid hn'
  obtain ⟨q1, q2, q3, -, -⟩ := kept w1 hb1
  clear hvA hv hn' hsh hf kept hW1 hW1p hW1b hW1s hblt
  go_wp2_with (at_builtin; refine wpList_append_keep rfl (.tmp 26) (.tmp 27) 22 rfl W1 (hb1.alloc hb1.size _) Try.underlying22 info_u8 rfl (by decide) (.slice A1 n c1) n (text.map B8) rfl (hown.alloc _) (some ⟨w1.heap.size, 0, none⟩) 1 1 [B8 128] rfl (rc_new w1 _ _ _) rfl (b8_oneCell [128]) (by unfold maxLen; omega) (by omega) ?_; intro v2 w2 hown2 hb2 _ _ _)
  clear q1 q2 q3
  have HX := Lib.hid (show w2.ownsRow W1.heap.size 5 1 v2 (n + 1 + 0) ((text ++ [128] ++ List.replicate 0 0).map B8) ∧ Below W1.heap.size W1 w2 from ⟨by simpa using hown2, hb2⟩)
  clear hown2 hb2 hown hb1
  go_wp2_with fail
  go_loopw [5] (fun a wr => ∃ j : Nat, j ≤ zc32 n ∧ Hid (wr.ownsRow W1.heap.size 5 1 a (n + 1 + j) ((text ++ [128] ++ List.replicate j 0).map B8) ∧ Below W1.heap.size W1 wr)) (fun a _ => n + 1 + 64 - lenV32 a)
  case atStart => exact ⟨0, by omega, HX⟩
  case round =>
    obtain ⟨j, hj, hx⟩ := hrel
    obtain ⟨Aj, cj, rfl, hcj1, hcj2, -, -⟩ := own_form hx.out.1
    obtain ⟨q1, q2, q3, -, -⟩ := Kept.out _ hx.out.2
    obtain ⟨m, hm⟩ : ∃ m, m = n + 1 + j := ⟨_, rfl⟩
    have hzl := zc32_lt n
    have hzm := zc32_mod n j hj
    rw [← hm] at hzm hx hcj1 ⊢
    have Hm := Lib.hid hm
    have hmn : m ≤ n + 64 + 1 := by omega
    clear hm
    by_cases hjz : j = zc32 n
    · have hB : ((m : Int) % 64 != 56) = false := by
        have := hzm.2 hjz
        simp
        omega
      have Hjz := Lib.hid hjz
      clear hzm hjz
      go_wp2_with fail
      go_quiet (fail)
      have hpre := Lib.hid (⟨ownsRow_below hx.out.1 (below_drewN (Below.refl _ _) nq), below_drewN hx.out.2 nq⟩ : (wr.drewN nq).ownsRow W1.heap.size 5 1 (.slice Aj m cj) m ((text ++ [128] ++ List.replicate j 0).map B8) ∧ Below W1.heap.size W1 (wr.drewN nq))
      obtain ⟨w3, hw3⟩ : ∃ w3, w3 = wr.drewN nq := ⟨_, rfl⟩
      rw [← hw3] at hpre ⊢
      clear hw3 hx
      obtain ⟨q1, q2, q3, -, -⟩ := Kept.out _ hpre.out.2
      obtain ⟨X, hX⟩ : ∃ X, X = BitVec.ofNat 64 n := ⟨_, rfl⟩
      have hXv : Value.int .u64 (n : Int) = V64 X := by
        rw [hX, V64, BitVec.toNat_ofNat, Nat.mod_eq_of_lt (by omega)]
      rw [hXv]
      have HX2 := Lib.hid hX
      obtain ⟨pre, hpr⟩ : ∃ pre, pre = text ++ [128] ++ List.replicate j 0 := ⟨_, rfl⟩
      rw [← hpr] at hpre
      have Hpr := Lib.hid hpr
      have z1 : ∀ t k, binOp .shl t (V64 X) (.int k 3) = pure (V64 (X <<< 3)) := fun t k => binOp_shl64 t k X 3 3 rfl (by decide)
      have z2 : ∀ t k, binOp .shr t (V64 X) (.int k 61) = pure (V64 (X >>> 61)) := fun t k => binOp_shr64 t k X 61 61 rfl (by decide)
      clear hX hXv hpr
      go_wp2_with fail
      go_loopw [5, 8] (fun a i wr => ∃ t : Nat, t ≤ 8 ∧ i = .int .i64 (8 - 1 - (t : Int)) ∧ Hid (wr.ownsRow W1.heap.size 5 1 a (m + t) ((pre ++ tailB32 n t).map B8) ∧ Below W1.heap.size W1 wr)) (fun a _ _ => m + 8 - lenV32 a)
      case atStart => exact ⟨0, by omega, rfl, Lib.hid (by simpa [tailB32] using hpre.out)⟩
      case round =>
        obtain ⟨t, ht, rfl, hy⟩ := hrel
        obtain ⟨At, ct, rfl, hct1, hct2, -, -⟩ := own_form hy.out.1
        by_cases htl : t < 8
        · obtain ⟨i, hi⟩ : ∃ i, i = 8 - 1 - t := ⟨_, rfl⟩
          have hie : (8 : Int) - 1 - (t : Int) = (i : Int) := by omega
          rw [hie]
          have hbt : tailB32 n (t + 1) = tailB32 n t ++ [lenB32 n i] := by rw [tailB32, hi]
          obtain ⟨byt, hby⟩ : ∃ byt, byt = lenB32 n i := ⟨_, rfl⟩
          rw [← hby] at hbt
          have Hi := Lib.hid hi
          have Hbt := Lib.hid hbt
          have hown := hy.out.1
          have hbw := hy.out.2
          clear hie hi hbt
          have hiL : i ≤ 8 - 1 := by have := Hi.out; omega
          by_cases h9 : 9 ≤ i
          · first
            | (exfalso; have := Hi.out; omega)
            | skip
          · by_cases h8 : i = 8
            · first
              | (exfalso; have := Hi.out; omega)
              | skip
            · have g9 : ¬ (9 : Int) ≤ (i : Int) := by omega
              have g8 : ((i : Int) == 8) = false := by simp; omega
              have hb0 : lenB32 n i = UInt8.ofNat ((X <<< 3) >>> (8 * i)).toNat := by rw [lenB32, if_neg h9, if_neg h8, HX2.out]
              rw [hb0] at hby
              have z3 : ∀ t k, binOp .shr t (V64 (X <<< 3)) (.int k (8 * (i : Int))) = pure (V64 ((X <<< 3) >>> (8 * i))) := fun t k => binOp_shr64 t k _ (8 * i) (8 * (i : Int)) (by omega) (by have := Hi.out; omega)
              clear h8
              go_wp2_with (at_builtin; refine wpList_append_keep rfl (.tmp 52) (.tmp 59) 22 rfl W1 (hbw.alloc hbw.size _) Try.underlying22 info_u8 rfl (by decide) (.slice At (m + t) ct) (m + t) _ rfl (hown.alloc _) (some ⟨wr.heap.size, 0, none⟩) 1 1 [B8 (UInt8.ofNat ((X <<< 3) >>> (8 * i)).toNat)] rfl (rc_new wr _ _ _) rfl (b8_oneCell [_]) (by unfold maxLen; omega) (by omega) ?_; intro v4 w4 hown4 hb4 _ _ _)
              obtain ⟨A4, c4, rfl, -, -, -, -⟩ := own_form hown4
              have HY := Lib.hid (⟨by rw [Hbt.out, ← List.append_assoc, List.map_append, hby]; exact hown4, hb4⟩ : w4.ownsRow W1.heap.size 5 1 (.slice A4 (m + t + 1) c4) (m + (t + 1)) ((pre ++ tailB32 n (t + 1)).map B8) ∧ Below W1.heap.size W1 w4)
              clear hown4 hb4 hown hbw hy
              go_roundw
              case rel =>
                refine ⟨t + 1, by omega, ?_, HY⟩
                have := Hi.out
                go_num
              case measure => simp [lenV32]; omega
        · obtain rfl : t = 8 := by omega
          have hown := hy.out.1
          have hbw := hy.out.2
          have hpad : pre ++ tailB32 n 8 = padded32 text := by rw [Hpr.out, Hjz.out, padded32, Hn'.out]
          have hplen := padded32_len text
          have hlen : (padded32 text).length = m + 8 := by rw [← hpad]; have := hown.1; simpa using this
          rw [hlen, ← Hn'.out] at hplen
          rw [hpad] at hown
          obtain ⟨cnt, hcnt⟩ : ∃ cnt, cnt = cnt32 n := ⟨_, rfl⟩
          rw [← hcnt] at hplen
          have hRB : RB wr At (m + 8) (padded32 text) := by
            obtain ⟨A', c', e, _, _, h, _⟩ := own_form hown
            injection e with e1 e2 e3
            subst e1 e3
            exact h
          obtain ⟨k1, k2, k3, k4, k5⟩ := Kept.out wr hbw
          have hblt : b < wr.heap.size := World.block_lt_of_cell? wr ⟨b, 0, none⟩ k2
          have g0 : wr.cell? ⟨b, 2, none⟩ = some (V32 s0.a) := k5 0 _ rfl
          have g1 : wr.cell? ⟨b, 3, none⟩ = some (V32 s0.b) := k5 1 _ rfl
          have g2 : wr.cell? ⟨b, 4, none⟩ = some (V32 s0.c) := k5 2 _ rfl
          have g3 : wr.cell? ⟨b, 5, none⟩ = some (V32 s0.d) := k5 3 _ rfl
          have g4 : wr.cell? ⟨b, 6, none⟩ = some (V32 s0.e) := k5 4 _ rfl
          have g5 : wr.cell? ⟨b, 7, none⟩ = some (V32 s0.f) := k5 5 _ rfl
          have g6 : wr.cell? ⟨b, 8, none⟩ = some (V32 s0.g) := k5 6 _ rfl
          have g7 : wr.cell? ⟨b, 9, none⟩ = some (V32 s0.h) := k5 7 _ rfl
          have Hplen := Lib.hid hplen
          have Hcnt := Lib.hid hcnt
          have Hlen := Lib.hid hlen
          obtain ⟨Lx, hLx⟩ : ∃ Lx, Lx = m + 8 := ⟨_, rfl⟩
          rw [← hLx] at hRB hct1 hown ⊢
          have HLx := Lib.hid hLx
          have hLm : Lx ≤ n + 2 * 64 + 32 := by omega
          have hAt : ∀ ad, At = some ad → 0 < Lx → ad.block < wr.heap.size := by
            rintro ad rfl h0
            obtain ⟨b', o', e, _⟩ := hRB.2 h0
            cases e
            exact RV.lt hRB h0
          have Hpad := Lib.hid hpad
          have Hown := Lib.hid hown
          clear hy hown hpad hplen hlen hcnt hLx k4 k5 q1 q2 q3
          have e1 : (8 : Int) - 1 - ((8 : Nat) : Int) = -1 := by decide
          rw [e1]
          clear e1
          obtain ⟨w5, rfl⟩ : ∃ w5, w5 = wr := ⟨_, rfl⟩
          go_wp2_with fail
          refine (chunk_any _ At Lx ct 64 (by decide)).mono ?_
          rintro e w6 ⟨rfl, hw6⟩
          go_wp2_with fail
          rw [show w5.heap.size + 1 + 1 = w5.heap.size + 2 from rfl]
          have h6 : Below w5.heap.size w5 w6 := by rw [← hw6]; exact (((Below.refl _ _).alloc (Nat.le_refl _) _).alloc (by simp) _).alloc (by simp; omega) _
          have a6 : w6.heap[w5.heap.size]? = some (.cells (cells32 s0).toArray 102 (0, 0)) := by
            rw [← hw6]
            exact (Below.heap_alloc _ _ _ (by simp; omega)).trans ((Below.heap_alloc _ _ _ (by simp)).trans (heap_alloc_new w5 _))
          have c6 : w6.heap[w5.heap.size + 1]? = some (.cells #[.slice At Lx ct] 22 (0, 0)) := by
            rw [← hw6]
            exact (Below.heap_alloc _ _ _ (by simp)).trans (heap_alloc_at _ _ _ (by simp))
          have d6 : w6.heap[w5.heap.size + 2]? = some (.cells #[.int .i64 64] 3 (0, 0)) := by
            rw [← hw6]
            exact heap_alloc_at _ _ _ (by simp)
          have s6 : w6.heap.size = w5.heap.size + 3 := by rw [← hw6]; simp
          have hcL := Lib.hid (show Lx = cnt * 64 by rw [HLx.out]; exact Hplen.out)
          refine wp_rangeIterF (n := 9) rfl (enters_of Try.func108 (by kernel_rfl) rfl) (chunk1_iter (w5.heap.size + 1) (w5.heap.size + 2) At Lx ct 64 cnt (padded32 text) w5.heap.size (by omega) hct1 hct2 (by decide) hcL.out) (fun k args W h => chOk_size h) (fun h k => chKp_t h k)
            (fun W l o o' hl h _ => chKp_b (m := w6.heap.size) (by omega) (by omega) (by omega) o' hl h) (fun k args W l o o' h _ hl ho => chOk_putObj h o' hl ho)
            (fun k W => DigIn32 w5 At Lx ct (pieces32 K s0 (padded32 text) k) W) (fun _ _ _ => False)
            (fun k W W' h hb => h.stable hb) (fun c k W W' h hb => h)
            (fun k W l o o' h hl ho hoc => h.abides (by omega) o' ho hoc) (fun c k W l o o' h _ _ _ => h)
            (fun W hb => ⟨(hb.cell (p := ⟨w5.heap.size + 1, 0, none⟩) (by show w5.heap.size + 1 < w6.heap.size; omega)).trans (by rw [cell_of_row _ _ _ _ _ _ c6]; rfl), (hb.cell (p := ⟨w5.heap.size + 2, 0, none⟩) (by show w5.heap.size + 2 < w6.heap.size; omega)).trans (by rw [cell_of_row _ _ _ _ _ _ d6]; rfl), (RV.below (RV.below hRB h6) hb), hAt⟩)
            ⟨h6, by omega, rangeAt_blk a6, there_blk a6 (by simp [cells32]), c6, d6⟩
            (fun args T => (T.setIfInBounds 83 (args.getD 0 undef)).setIfInBounds 10 (args.getD 0 undef))
            ?assign ?body ?done ?stop
          case assign =>
            rintro l k args W K ⟨B, rfl, _⟩ hK
            gi_wp2
            simpa using hK
          case body =>
            rintro l k args W hk hI ⟨B, rfl, hB⟩
            simp only [show ∀ a : Value, #[a].getD 0 undef = a from fun _ => rfl, List.setIfInBounds_toArray, List.set_cons_succ, List.set_cons_zero]
            obtain ⟨k1', k2', k3', k4', -⟩ := Kept.out W (hbw.trans (hI.below.mono hbw.size))
            obtain ⟨st, hst⟩ : ∃ st, st = pieces32 K s0 (padded32 text) k := ⟨_, rfl⟩
            obtain ⟨sn, hsn⟩ : ∃ sn, sn = pieceSt32 K st (chunkOf (padded32 text) 64 k) := ⟨_, rfl⟩
            have hnx : pieces32 K s0 (padded32 text) (k + 1) = sn := by rw [pieces32, ← hst, hsn]
            rw [← hst] at hI
            have e0 : W.cell? ⟨w5.heap.size, 0, none⟩ = some (V32 st.a) := by simpa using hI.st 0 _ rfl
            have e1 : W.cell? ⟨w5.heap.size, 1, none⟩ = some (V32 st.b) := by simpa using hI.st 1 _ rfl
            have e2 : W.cell? ⟨w5.heap.size, 2, none⟩ = some (V32 st.c) := by simpa using hI.st 2 _ rfl
            have e3 : W.cell? ⟨w5.heap.size, 3, none⟩ = some (V32 st.d) := by simpa using hI.st 3 _ rfl
            have e4 : W.cell? ⟨w5.heap.size, 4, none⟩ = some (V32 st.e) := by simpa using hI.st 4 _ rfl
            have e5 : W.cell? ⟨w5.heap.size, 5, none⟩ = some (V32 st.f) := by simpa using hI.st 5 _ rfl
            have e6 : W.cell? ⟨w5.heap.size, 6, none⟩ = some (V32 st.g) := by simpa using hI.st 6 _ rfl
            have e7 : W.cell? ⟨w5.heap.size, 7, none⟩ = some (V32 st.h) := by simpa using hI.st 7 _ rfl
            have HI := Lib.hid hI
            have Hnx := Lib.hid hnx
            obtain ⟨ch, hch⟩ : ∃ ch, ch = chunkOf (padded32 text) 64 k := ⟨_, rfl⟩
            rw [← hch] at hB hsn
            have hpc := piece32_any W b gT cT K k4' st B ch hB
            rw [← hsn] at hpc
            have Hpc := Lib.hid hpc
            clear hI hnx hst hch hsn hpc hB
            gi_wp2_with fail
            refine ⟨trivial, CallsIn.inRound l (callsIn_wide.2 (Hpc.out.mono ?_))⟩
            rintro e W' ⟨rfl, hb'⟩
            have hI' := HI.out.stable hb'
            have th' : W'.there w5.heap.size 0 (cells32 sn).toArray.size := hI'.th
            have HI' := Lib.hid hI'
            clear hI' e0 e1 e2 e3 e4 e5 e6 e7 k1' k2' k3'
            gi_wp2_with ((with_reducible show wpListIn _ _ _ _ _ (⟨_, Op.store 102 _ _, _, _, _, _⟩ :: _) _ _); refine wpListIn_store_row rfl _ _ _ rfl w5.heap.size 0 (cells32 sn).toArray rfl rfl th' (by kernel_rfl) (by simp [cells32]) ?_; intro w8 hg8 hs8 ht8 hth8)
            have fin := HI'.out.step hg8 hs8.out (by simpa using ht8) hth8
            refine ⟨(keepsOthers_below hb').trans fin.2.1, chKp_t ⟨hb'.mono HI.out.below.size, hb'.cell (p := ⟨w5.heap.size + 1, 0, none⟩) (by have := HI.out.sz; show w5.heap.size + 1 < W.heap.size; omega), hb'.cell (p := ⟨w5.heap.size + 2, 0, none⟩) (by have := HI.out.sz; show w5.heap.size + 2 < W.heap.size; omega)⟩ fin.2.2, ?_⟩
            show DigIn32 w5 At Lx ct (pieces32 K s0 (padded32 text) (k + 1)) w8
            rw [Hnx.out]
            exact fin.1
          case done =>
            rintro D W hD hI hK
            have hI2 : DigIn32 w5 At Lx ct (pieces32 K s0 (padded32 text) cnt) W := hI
            obtain ⟨u, hu⟩ : ∃ u, u = pieces32 K s0 (padded32 text) cnt := ⟨_, rfl⟩
            rw [← hu] at hI2
            have hdig : digest32 K s0 text = out32 u 8 := by rw [digest32, hu, Hcnt.out, Hn'.out]
            have Hdig := Lib.hid hdig
            have e0 : W.cell? ⟨w5.heap.size, 0, none⟩ = some (V32 u.a) := by simpa using hI2.st 0 _ rfl
            have e1 : W.cell? ⟨w5.heap.size, 1, none⟩ = some (V32 u.b) := by simpa using hI2.st 1 _ rfl
            have e2 : W.cell? ⟨w5.heap.size, 2, none⟩ = some (V32 u.c) := by simpa using hI2.st 2 _ rfl
            have e3 : W.cell? ⟨w5.heap.size, 3, none⟩ = some (V32 u.d) := by simpa using hI2.st 3 _ rfl
            have e4 : W.cell? ⟨w5.heap.size, 4, none⟩ = some (V32 u.e) := by simpa using hI2.st 4 _ rfl
            have e5 : W.cell? ⟨w5.heap.size, 5, none⟩ = some (V32 u.f) := by simpa using hI2.st 5 _ rfl
            have e6 : W.cell? ⟨w5.heap.size, 6, none⟩ = some (V32 u.g) := by simpa using hI2.st 6 _ rfl
            have e7 : W.cell? ⟨w5.heap.size, 7, none⟩ = some (V32 u.h) := by simpa using hI2.st 7 _ rfl
            have HS := Lib.hid (⟨World.ownsRow_nil _ _ _ _, hbw.trans (hI2.below.mono hbw.size), hK⟩ : W.ownsRow W1.heap.size 5 1 (.slice none 0 0) 0 ((out32 u 0).map B8) ∧ Below W1.heap.size W1 W ∧ W.heap[D]? = some (.deferred (some [])))
            clear hI hI2 hK hu hdig
            simp only [Exit.inBlock, Exit.then]
            go_wp2_with fail
            clear e0 e1 e2 e3 e4 e5 e6 e7
            go_loopw [11, 89] (fun a i wr => ∃ k : Nat, k ≤ 8 ∧ i = .int .i64 k ∧ Hid (wr.ownsRow W1.heap.size 5 1 a (k * 4) ((out32 u k).map B8) ∧ Below W1.heap.size W1 wr ∧ wr.heap[D]? = some (.deferred (some [])))) (fun _ i _ => 8 - (intOf i).toNat)
            case atStart => exact ⟨0, by omega, rfl, by simpa using HS⟩
            case round =>
              obtain ⟨k, hk, rfl, hq⟩ := hrel
              by_cases hkl : k < 8
              · have hidx := index832 u k hkl
                have hd8 : decide ((k : Int) < 8) = true := decide_eq_true (by omega)
                have hsucc := out32_succ u k hkl
                obtain ⟨x, hx⟩ : ∃ x, x = (words832 u).getD k 0 := ⟨_, rfl⟩
                rw [← hx] at hidx hsucc
                have Hsucc := Lib.hid hsucc
                obtain ⟨p1', p2', -, -, -⟩ := Kept.out wr hq.out.2.1
                have HQ := Lib.hid (show wr.ownsRow W1.heap.size 5 1 u11 (k * 4 + 0) ((out32 u k ++ wordB32 x 0).map B8) ∧ Below W1.heap.size W1 wr ∧ wr.heap[D]? = some (.deferred (some [])) by simpa [wordB32] using hq.out)
                clear hx hsucc hq
                go_wp2_with fail
                go_loopw [11, 14] (fun a i wr => ∃ j : Nat, j ≤ 4 ∧ i = .int .i64 (32 - 8 - 8 * (j : Int)) ∧ Hid (wr.ownsRow W1.heap.size 5 1 a (k * 4 + j) ((out32 u k ++ wordB32 x j).map B8) ∧ Below W1.heap.size W1 wr ∧ wr.heap[D]? = some (.deferred (some [])))) (fun a _ _ => k * 4 + 4 - lenV32 a)
                case atStart => exact ⟨0, by omega, rfl, HQ⟩
                case round =>
                  obtain ⟨j, hj, rfl, hy⟩ := hrel
                  obtain ⟨Aj2, cj2, rfl, -, -, -, -⟩ := own_form hy.out.1
                  by_cases hjl : j < 4
                  · obtain ⟨i, hi⟩ : ∃ i, i = 32 - 8 - 8 * j := ⟨_, rfl⟩
                    have hie : (32 : Int) - 8 - 8 * (j : Int) = (i : Int) := by omega
                    rw [hie]
                    have hwb : wordB32 x (j + 1) = wordB32 x j ++ [UInt8.ofNat (x >>> i).toNat] := by rw [wordB32, hi]
                    have Hi := Lib.hid hi
                    have Hwb := Lib.hid hwb
                    have hiN : i ≤ 32 - 8 := by omega
                    have zz : ∀ t k', binOp .shr t (V32 x) (.int k' (i : Int)) = pure (V32 (x >>> i)) := fun t k' => binOp_shr32 t k' x i (i : Int) rfl (by omega)
                    have hown := hy.out.1
                    have hbw3 := hy.out.2.1
                    clear hie hi hwb
                    go_wp2_with (at_builtin; refine wpList_append_keep rfl (.tmp 101) (.tmp 106) 22 rfl W1 (hbw3.alloc hbw3.size _) Try.underlying22 info_u8 rfl (by decide) (.slice Aj2 (k * 4 + j) cj2) (k * 4 + j) _ rfl (hown.alloc _) (some ⟨wr.heap.size, 0, none⟩) 1 1 [B8 (UInt8.ofNat (x >>> i).toNat)] rfl (rc_new wr _ _ _) rfl (b8_oneCell [_]) (by unfold maxLen; omega) (by omega) ?_; intro v4 w4 hown4 hb4 _ hgr4 _)
                    obtain ⟨A4, c4, rfl, -, -, -, -⟩ := own_form hown4
                    have hD4 : w4.heap[D]? = some (.deferred (some [])) := (hgr4.block D (by have := (Array.getElem?_eq_some_iff.1 hy.out.2.2).1; simp; omega) (fun e => own_notObj32 (hy.out.1) hy.out.2.2 rfl e.symm)).trans (heap_below hy.out.2.2 ((Below.refl _ _).alloc (Nat.le_refl _) _))
                    have HY := Lib.hid (⟨by rw [Hwb.out, ← List.append_assoc, List.map_append]; exact hown4, hb4, hD4⟩ : w4.ownsRow W1.heap.size 5 1 (.slice A4 (k * 4 + j + 1) c4) (k * 4 + (j + 1)) ((out32 u k ++ wordB32 x (j + 1)).map B8) ∧ Below W1.heap.size W1 w4 ∧ w4.heap[D]? = some (.deferred (some [])))
                    clear hown4 hb4 hD4 hgr4 hown hbw3 hy
                    go_roundw
                    case rel =>
                      refine ⟨j + 1, by omega, ?_, HY⟩
                      have := Hi.out
                      go_num
                    case measure => simp [lenV32]; omega
                  · obtain rfl : j = 4 := by omega
                    have HZ := Lib.hid (⟨by rw [Hsucc.out, show (k + 1) * 4 = k * 4 + 4 by omega]; exact hy.out.1, hy.out.2⟩ : wr.ownsRow W1.heap.size 5 1 (.slice Aj2 (k * 4 + 4) cj2) ((k + 1) * 4) ((out32 u (k + 1)).map B8) ∧ Below W1.heap.size W1 wr ∧ wr.heap[D]? = some (.deferred (some [])))
                    clear hy
                    go_wp2
                    go_roundw
                    case rel => exact ⟨k + 1, hkl, by go_num, HZ⟩
                    case measure => simp [intOf]; omega
              · obtain rfl : k = 8 := by omega
                go_wp2
                refine ⟨by simp, .inl ⟨_, _, rfl, run_takeDeferred hq.out.2.2, ?_⟩⟩
                have hfin : wr.ownsRow w.heap.size 5 1 u11 (out32 u 8).length ((out32 u 8).map B8) := by
                  rw [out32_len u 8 (Nat.le_refl _)]
                  exact ownsRow_base hq.out.1 HW1b.out.size
                refine ⟨_, results_tmp rfl _ _ _, _, rfl, ?_, ?_⟩
                · rw [Hdig.out]
                  exact ownsRow_putObj hfin _ hq.out.2.2 rfl
                · have hb9 := HW1b.out.trans (hq.out.2.1.mono HW1b.out.size)
                  exact below_putObj _ D _ hb9 (by have := HW1b.out.size; have := hbw.size; have := h6.size; omega) hb9.size
          case stop =>
            intro D c k W _ _ h _
            exact h.elim
    · have hB : ((m : Int) % 64 != 56) = true := by
        have : ¬ m % 64 = 64 - 8 := fun h => hjz (hzm.1 h)
        simp
        omega
      have hjl : j + 1 ≤ zc32 n := by omega
      have hown := hx.out.1
      have hbw := hx.out.2
      clear hzm hjz
      go_wp2_with fail
      go_quiet (fail)
      have hown' := ownsRow_below hown (below_drewN (Below.refl _ _) nq)
      have hbw' := below_drewN hbw nq
      generalize wr.drewN nq = w3 at hown' hbw' ⊢
      go_wp2_with (at_builtin; refine wpList_append_keep rfl (.tmp 40) (.tmp 41) 22 rfl W1 (hbw'.alloc hbw'.size _) Try.underlying22 info_u8 rfl (by decide) (.slice Aj m cj) m _ rfl (hown'.alloc _) (some ⟨w3.heap.size, 0, none⟩) 1 1 [B8 0] rfl (rc_new w3 _ _ _) rfl (b8_oneCell [0]) (by unfold maxLen; omega) (by omega) ?_; intro v4 w4 hown4 hb4 _ _ _)
      obtain ⟨A4, c4, rfl, -, -, -, -⟩ := own_form hown4
      have HY := Lib.hid (⟨by rw [show n + 1 + (j + 1) = m + 1 by have := Hm.out; omega, List.replicate_succ', ← List.append_assoc, List.map_append]; exact hown4, hb4⟩ : w4.ownsRow W1.heap.size 5 1 (.slice A4 (m + 1) c4) (n + 1 + (j + 1)) ((text ++ [128] ++ List.replicate (j + 1) 0).map B8) ∧ Below W1.heap.size W1 w4)
      clear hown4 hb4 hown' hbw' hown hbw hx
      go_roundw
      case rel => exact ⟨j + 1, hjl, HY⟩
      case measure => have := Hm.out; simp [lenV32]; omega
end Go.Proofs.Ytkcmacglomdfcaa

/-
  THE WALK of a digest (words of 64 bits).
-/
namespace Go.Proofs.Ytkcmacglomdfcaa
open Go.RowKit Go.Shelf
attribute [local go_sem] Oper.semAt_some

theorem index864 (u : St64) (k : Nat) (hk : k < 8) (w : World) : (Instr.index 108 (.agg #[V64 u.a, V64 u.b, V64 u.c, V64 u.d, V64 u.e, V64 u.f, V64 u.g, V64 u.h]) (.int .i64 (k : Int))).run Try.prog w = .ok (V64 ((words864 u).getD k 0)) w := by
  match k, hk with
  | 0, _ =>
    have i0 : ∀ w, (Instr.index 108 (.agg #[V64 u.a, V64 u.b, V64 u.c, V64 u.d, V64 u.e, V64 u.f, V64 u.g, V64 u.h]) (.int .i64 0)).run Try.prog w = .ok (V64 u.a) w := fun _ => by kernel_rfl
    exact i0 w
  | 1, _ =>
    have i0 : ∀ w, (Instr.index 108 (.agg #[V64 u.a, V64 u.b, V64 u.c, V64 u.d, V64 u.e, V64 u.f, V64 u.g, V64 u.h]) (.int .i64 1)).run Try.prog w = .ok (V64 u.b) w := fun _ => by kernel_rfl
    exact i0 w
  | 2, _ =>
    have i0 : ∀ w, (Instr.index 108 (.agg #[V64 u.a, V64 u.b, V64 u.c, V64 u.d, V64 u.e, V64 u.f, V64 u.g, V64 u.h]) (.int .i64 2)).run Try.prog w = .ok (V64 u.c) w := fun _ => by kernel_rfl
    exact i0 w
  | 3, _ =>
    have i0 : ∀ w, (Instr.index 108 (.agg #[V64 u.a, V64 u.b, V64 u.c, V64 u.d, V64 u.e, V64 u.f, V64 u.g, V64 u.h]) (.int .i64 3)).run Try.prog w = .ok (V64 u.d) w := fun _ => by kernel_rfl
    exact i0 w
  | 4, _ =>
    have i0 : ∀ w, (Instr.index 108 (.agg #[V64 u.a, V64 u.b, V64 u.c, V64 u.d, V64 u.e, V64 u.f, V64 u.g, V64 u.h]) (.int .i64 4)).run Try.prog w = .ok (V64 u.e) w := fun _ => by kernel_rfl
    exact i0 w
  | 5, _ =>
    have i0 : ∀ w, (Instr.index 108 (.agg #[V64 u.a, V64 u.b, V64 u.c, V64 u.d, V64 u.e, V64 u.f, V64 u.g, V64 u.h]) (.int .i64 5)).run Try.prog w = .ok (V64 u.f) w := fun _ => by kernel_rfl
    exact i0 w
  | 6, _ =>
    have i0 : ∀ w, (Instr.index 108 (.agg #[V64 u.a, V64 u.b, V64 u.c, V64 u.d, V64 u.e, V64 u.f, V64 u.g, V64 u.h]) (.int .i64 6)).run Try.prog w = .ok (V64 u.g) w := fun _ => by kernel_rfl
    exact i0 w
  | 7, _ =>
    have i0 : ∀ w, (Instr.index 108 (.agg #[V64 u.a, V64 u.b, V64 u.c, V64 u.d, V64 u.e, V64 u.f, V64 u.g, V64 u.h]) (.int .i64 7)).run Try.prog w = .ok (V64 u.h) w := fun _ => by kernel_rfl
    exact i0 w
  | n + 8, h => omega
theorem out64_succ (u : St64) (k : Nat) (hk : k < 8) : out64 u (k + 1) = out64 u k ++ wordB64 ((words864 u).getD k 0) 8 := by
  have h : (words864 u)[k]? = some ((words864 u).getD k 0) := by rw [List.getD_eq_getElem?_getD, List.getElem?_eq_getElem (by simpa [words864] using hk)]; rfl
  rw [out64, take_snoc h, List.flatMap_append, out64]
  simp
theorem out64_len (u : St64) : ∀ k, k ≤ 8 → (out64 u k).length = k * 8 := by
  intro k
  induction k with
  | zero => intro _; rfl
  | succ k ih => intro hk; rw [out64_succ u k hk, List.length_append, ih (by omega), wordB64_len]; omega
theorem own_notObj64 {w : World} {B : Nat} {e : TypeId} {s : Nat} {v : Value} {n : Nat} {xs : List Value} (h : w.ownsRow B e s v n xs) {D : Nat} {o : Obj} (hD : w.heap[D]? = some o) (ho : o.isCells = false) : v.ownBlock ≠ some D := by
  intro hv
  rcases h.2 with ⟨rfl, _⟩ | ⟨g, cap, cur, rfl, hg, hh, r⟩
  · simp [Value.ownBlock] at hv
  · simp [Value.ownBlock] at hv
    rw [hv, hD] at hh
    cases hh
    cases ho
/-- Between two rounds over the pieces. -/
structure DigIn64 (w5 : World) (At : Option Addr) (Lx ct : Nat) (u : St64) (W : World) : Prop where
  below : Below w5.heap.size w5 W
  sz : w5.heap.size + 3 ≤ W.heap.size
  st : W.rangeAt w5.heap.size 0 (cells64 u)
  th : W.there w5.heap.size 0 (cells64 u).toArray.size
  cb : W.heap[w5.heap.size + 1]? = some (.cells #[.slice At Lx ct] 22 (0, 0))
  nb : W.heap[w5.heap.size + 2]? = some (.cells #[.int .i64 128] 3 (0, 0))
theorem DigIn64.stable {w5 W W' : World} {At : Option Addr} {Lx ct : Nat} {st : St64} (h : DigIn64 w5 At Lx ct st W) (hb : Below W.heap.size W W') : DigIn64 w5 At Lx ct st W' :=
  ⟨h.below.trans (hb.mono h.below.size), Nat.le_trans h.sz hb.size, rangeAt_below h.st hb, there_same h.th (hb.block _ (by have := h.sz; omega)), heap_below h.cb hb, heap_below h.nb hb⟩
theorem DigIn64.abides {w5 W : World} {At : Option Addr} {Lx ct l : Nat} {st : St64} {o : Obj} (h : DigIn64 w5 At Lx ct st W) (hl : w5.heap.size ≤ l) (o' : Obj) (ho : W.heap[l]? = some o) (hoc : o.isCells = false) : DigIn64 w5 At Lx ct st (W.putObj l o') := by
  have hne : w5.heap.size ≠ l := by
    rintro rfl
    have := isCells_of (a := ⟨w5.heap.size, 0, none⟩) (by simpa using h.st 0 _ rfl) ho
    rw [this] at hoc
    cases hoc
  have hb : (W.putObj l o').heap[w5.heap.size]? = W.heap[w5.heap.size]? := World.putObj_heap_other hne
  exact ⟨below_putObj W l o' h.below hl h.below.size, by have := h.sz; simpa [World.putObj] using this, rangeAt_same h.st hb, there_same h.th hb, heap_putObj h.cb o' ho hoc, heap_putObj h.nb o' ho hoc⟩
theorem DigIn64.step {w5 W W' : World} {At : Option Addr} {Lx ct : Nat} {st st' : St64} (h : DigIn64 w5 At Lx ct st W) (hg : W.grownBy W' (some w5.heap.size)) (hs : W'.heap.size = W.heap.size) (hr : W'.rangeAt w5.heap.size 0 (cells64 st')) (ht : W'.there w5.heap.size 0 (cells64 st').toArray.size) :
    DigIn64 w5 At Lx ct st' W' ∧ KeepsOthers W W' ∧ ChKp w5.heap.size (w5.heap.size + 1) (w5.heap.size + 2) W W' := by
  have hsz := h.sz
  have cb := (hg.block (w5.heap.size + 1) (by omega) (by simp)).trans h.cb
  have nb := (hg.block (w5.heap.size + 2) (by omega) (by simp)).trans h.nb
  refine ⟨⟨h.below.grown hg h.below.size (fun g e => by cases e; exact Nat.le_refl _), by omega, hr, ht, cb, nb⟩, KeepsOthers.of_grownBy hg (fun j o e ho => ?_), (Below.refl _ W).grown hg h.below.size (fun g e => by cases e; exact Nat.le_refl _), ?_, ?_⟩
  · cases e
    exact isCells_of (a := ⟨w5.heap.size, 0, none⟩) (by simpa using h.st 0 _ rfl) ho
  · rw [cell_of_row _ _ _ _ _ _ cb, cell_of_row _ _ _ _ _ _ h.cb]
  · rw [cell_of_row _ _ _ _ _ _ nb, cell_of_row _ _ _ _ _ _ h.nb]
def lenV64 : Value → Nat
  | .slice _ n _ => n
  | _ => 0
set_option maxRecDepth 100000 in
set_option maxHeartbeats 4000000 in
theorem digest64_any (w : World) (b gT cT : Nat) (K : List (BitVec 64)) (hsh : Shape64 w b gT cT K) (s0 : St64) (hf : w.rangeAt b 2 (cells64 s0)) (v : Value) (ps : List (List UInt8)) (hv : SBs w v ps) (hn : ps.flatten.length ≤ 70368744177664) :
    Calls Try.prog 82 #[.pointer (some ⟨b, 0, none⟩), v] w fun e w' => ∃ v, e = .returned v ∧ w'.ownsRow w.heap.size 5 1 v (digest64 K s0 ps.flatten).length ((digest64 K s0 ps.flatten).map B8) ∧ Below w.heap.size w w' := by
  obtain ⟨text, htx⟩ : ∃ text, text = ps.flatten := ⟨_, rfl⟩
  have hv' := hv
  obtain ⟨vs, ⟨A, n0, c0, rfl, h1, h2, h3⟩, hl, hp⟩ := hv'
  clear h1 h2 h3 hl hp
  have hblt : b < w.heap.size := World.block_lt_of_cell? w ⟨b, 0, none⟩ hsh.bits
  refine (callsIn_wide (n := 9)).1 ?_
  refine callsIn_of_wp_marks Try.func82 rfl trivial ?_ rfl
  rw [wpIn_wide]
  simp only [Try.ntmps82, List.size_toArray, List.length_cons, List.length_nil, Nat.reduceAdd, Nat.reduceSub, Array.replicate_succ, Array.replicate_zero, List.push_toArray, List.append_toArray, List.nil_append, List.cons_append]
  rw [← htx] at hn ⊢
  have Htx := Lib.hid htx
  clear htx
  obtain ⟨W1, hW1⟩ : ∃ W1, W1 = w.alloc (.cells #[.pointer (some ⟨b, 0, none⟩)] 114) := ⟨_, rfl⟩
  have hW1b : Below w.heap.size w W1 := by rw [hW1]; exact (Below.refl _ _).alloc (Nat.le_refl _) _
  have hW1s : W1.heap.size = w.heap.size + 1 := by rw [hW1]; simp
  have hW1p : W1.heap[w.heap.size]? = some (.cells #[.pointer (some ⟨b, 0, none⟩)] 114 (0, 0)) := by rw [hW1]; exact heap_alloc_new w _
  have hvA : SBs W1 (.slice A n0 c0) ps := hv.below hW1b
  go_wp2_with fail
  rw [← hW1]
  refine (concat_any _ _ ps hvA (by rw [← Htx.out]; omega)).mono ?_
  rintro e w1 ⟨v1, rfl, hown, hb1⟩
  rw [← Htx.out] at hown
  obtain ⟨n, hn'⟩ : ∃ n, n = text.length := ⟨_, rfl⟩
  rw [← hn'] at hn hown
  obtain ⟨A1, c1, rfl, hc1, hcm1, -, -⟩ := own_form hown
  have kept : ∀ W, Below W1.heap.size W1 W → W.cell? ⟨w.heap.size, 0, none⟩ = some (.pointer (some ⟨b, 0, none⟩)) ∧ W.cell? ⟨b, 0, none⟩ = some (.int .i64 64) ∧ W.cell? ⟨b, 22, none⟩ = some (.int .i64 16) ∧ Shape64 W b gT cT K ∧ W.rangeAt b 2 (cells64 s0) := by
    intro W hb
    have hs := (hsh.below hW1b).below hb
    refine ⟨(hb.cell (p := ⟨w.heap.size, 0, none⟩) (by show w.heap.size < W1.heap.size; omega)).trans (by rw [cell_of_row _ _ _ _ _ _ hW1p]; rfl), hs.bits, hs.len, hs, fun j v hv => ?_⟩
    exact ((hW1b.trans (hb.mono hW1b.size)).cell (p := ⟨b, 2 + j, none⟩) hblt).trans (hf j v hv)
  have Kept := Lib.hid kept
  have HW1b := Lib.hid hW1b
  have HW1s := Lib.hid hW1s
  have Hn' := Lib.hid hn'
  obtain ⟨q1, q2, q3, -, -⟩ := kept w1 hb1
  clear hvA hv hn' hsh hf kept hW1 hW1p hW1b hW1s hblt
  go_wp2_with (at_builtin; refine wpList_append_keep rfl (.tmp 26) (.tmp 27) 22 rfl W1 (hb1.alloc hb1.size _) Try.underlying22 info_u8 rfl (by decide) (.slice A1 n c1) n (text.map B8) rfl (hown.alloc _) (some ⟨w1.heap.size, 0, none⟩) 1 1 [B8 128] rfl (rc_new w1 _ _ _) rfl (b8_oneCell [128]) (by unfold maxLen; omega) (by omega) ?_; intro v2 w2 hown2 hb2 _ _ _)
  clear q1 q2 q3
  have HX := Lib.hid (show w2.ownsRow W1.heap.size 5 1 v2 (n + 1 + 0) ((text ++ [128] ++ List.replicate 0 0).map B8) ∧ Below W1.heap.size W1 w2 from ⟨by simpa using hown2, hb2⟩)
  clear hown2 hb2 hown hb1
  go_wp2_with fail
  go_loopw [5] (fun a wr => ∃ j : Nat, j ≤ zc64 n ∧ Hid (wr.ownsRow W1.heap.size 5 1 a (n + 1 + j) ((text ++ [128] ++ List.replicate j 0).map B8) ∧ Below W1.heap.size W1 wr)) (fun a _ => n + 1 + 128 - lenV64 a)
  case atStart => exact ⟨0, by omega, HX⟩
  case round =>
    obtain ⟨j, hj, hx⟩ := hrel
    obtain ⟨Aj, cj, rfl, hcj1, hcj2, -, -⟩ := own_form hx.out.1
    obtain ⟨q1, q2, q3, -, -⟩ := Kept.out _ hx.out.2
    obtain ⟨m, hm⟩ : ∃ m, m = n + 1 + j := ⟨_, rfl⟩
    have hzl := zc64_lt n
    have hzm := zc64_mod n j hj
    rw [← hm] at hzm hx hcj1 ⊢
    have Hm := Lib.hid hm
    have hmn : m ≤ n + 128 + 1 := by omega
    clear hm
    by_cases hjz : j = zc64 n
    · have hB : ((m : Int) % 128 != 112) = false := by
        have := hzm.2 hjz
        simp
        omega
      have Hjz := Lib.hid hjz
      clear hzm hjz
      go_wp2_with fail
      go_quiet (fail)
      have hpre := Lib.hid (⟨ownsRow_below hx.out.1 (below_drewN (Below.refl _ _) nq), below_drewN hx.out.2 nq⟩ : (wr.drewN nq).ownsRow W1.heap.size 5 1 (.slice Aj m cj) m ((text ++ [128] ++ List.replicate j 0).map B8) ∧ Below W1.heap.size W1 (wr.drewN nq))
      obtain ⟨w3, hw3⟩ : ∃ w3, w3 = wr.drewN nq := ⟨_, rfl⟩
      rw [← hw3] at hpre ⊢
      clear hw3 hx
      obtain ⟨q1, q2, q3, -, -⟩ := Kept.out _ hpre.out.2
      obtain ⟨X, hX⟩ : ∃ X, X = BitVec.ofNat 64 n := ⟨_, rfl⟩
      have hXv : Value.int .u64 (n : Int) = V64 X := by
        rw [hX, V64, BitVec.toNat_ofNat, Nat.mod_eq_of_lt (by omega)]
      rw [hXv]
      have HX2 := Lib.hid hX
      obtain ⟨pre, hpr⟩ : ∃ pre, pre = text ++ [128] ++ List.replicate j 0 := ⟨_, rfl⟩
      rw [← hpr] at hpre
      have Hpr := Lib.hid hpr
      have z1 : ∀ t k, binOp .shl t (V64 X) (.int k 3) = pure (V64 (X <<< 3)) := fun t k => binOp_shl64 t k X 3 3 rfl (by decide)
      have z2 : ∀ t k, binOp .shr t (V64 X) (.int k 61) = pure (V64 (X >>> 61)) := fun t k => binOp_shr64 t k X 61 61 rfl (by decide)
      clear hX hXv hpr
      go_wp2_with fail
      go_loopw [5, 8] (fun a i wr => ∃ t : Nat, t ≤ 16 ∧ i = .int .i64 (16 - 1 - (t : Int)) ∧ Hid (wr.ownsRow W1.heap.size 5 1 a (m + t) ((pre ++ tailB64 n t).map B8) ∧ Below W1.heap.size W1 wr)) (fun a _ _ => m + 16 - lenV64 a)
      case atStart => exact ⟨0, by omega, rfl, Lib.hid (by simpa [tailB64] using hpre.out)⟩
      case round =>
        obtain ⟨t, ht, rfl, hy⟩ := hrel
        obtain ⟨At, ct, rfl, hct1, hct2, -, -⟩ := own_form hy.out.1
        by_cases htl : t < 16
        · obtain ⟨i, hi⟩ : ∃ i, i = 16 - 1 - t := ⟨_, rfl⟩
          have hie : (16 : Int) - 1 - (t : Int) = (i : Int) := by omega
          rw [hie]
          have hbt : tailB64 n (t + 1) = tailB64 n t ++ [lenB64 n i] := by rw [tailB64, hi]
          obtain ⟨byt, hby⟩ : ∃ byt, byt = lenB64 n i := ⟨_, rfl⟩
          rw [← hby] at hbt
          have Hi := Lib.hid hi
          have Hbt := Lib.hid hbt
          have hown := hy.out.1
          have hbw := hy.out.2
          clear hie hi hbt
          have hiL : i ≤ 16 - 1 := by have := Hi.out; omega
          by_cases h9 : 9 ≤ i
          · first
            | (exfalso; have := Hi.out; omega)
            | skip
            have g9 : (9 : Int) ≤ (i : Int) := by omega
            have hb0 : lenB64 n i = 0 := by rw [lenB64, if_pos h9]
            rw [hb0] at hby
            go_wp2_with (at_builtin; refine wpList_append_keep rfl (.tmp 64) (.tmp 65) 22 rfl W1 (hbw.alloc hbw.size _) Try.underlying22 info_u8 rfl (by decide) (.slice At (m + t) ct) (m + t) _ rfl (hown.alloc _) (some ⟨wr.heap.size, 0, none⟩) 1 1 [B8 (0)] rfl (rc_new wr _ _ _) rfl (b8_oneCell [_]) (by unfold maxLen; omega) (by omega) ?_; intro v4 w4 hown4 hb4 _ _ _)
            obtain ⟨A4, c4, rfl, -, -, -, -⟩ := own_form hown4
            have HY := Lib.hid (⟨by rw [Hbt.out, ← List.append_assoc, List.map_append, hby]; exact hown4, hb4⟩ : w4.ownsRow W1.heap.size 5 1 (.slice A4 (m + t + 1) c4) (m + (t + 1)) ((pre ++ tailB64 n (t + 1)).map B8) ∧ Below W1.heap.size W1 w4)
            clear hown4 hb4 hown hbw hy
            go_roundw
            case rel =>
              refine ⟨t + 1, by omega, ?_, HY⟩
              have := Hi.out
              go_num
            case measure => simp [lenV64]; omega
          · by_cases h8 : i = 8
            · first
              | (exfalso; have := Hi.out; omega)
              | skip
              have g9 : ¬ (9 : Int) ≤ (i : Int) := by omega
              have g8 : ((i : Int) == 8) = true := by simp; omega
              have hb0 : lenB64 n i = UInt8.ofNat (X >>> 61).toNat := by rw [lenB64, if_neg h9, if_pos h8, HX2.out]
              rw [hb0] at hby
              clear h8
              go_wp2_with (at_builtin; refine wpList_append_keep rfl (.tmp 70) (.tmp 74) 22 rfl W1 (hbw.alloc hbw.size _) Try.underlying22 info_u8 rfl (by decide) (.slice At (m + t) ct) (m + t) _ rfl (hown.alloc _) (some ⟨wr.heap.size, 0, none⟩) 1 1 [B8 (UInt8.ofNat (X >>> 61).toNat)] rfl (rc_new wr _ _ _) rfl (b8_oneCell [_]) (by unfold maxLen; omega) (by omega) ?_; intro v4 w4 hown4 hb4 _ _ _)
              obtain ⟨A4, c4, rfl, -, -, -, -⟩ := own_form hown4
              have HY := Lib.hid (⟨by rw [Hbt.out, ← List.append_assoc, List.map_append, hby]; exact hown4, hb4⟩ : w4.ownsRow W1.heap.size 5 1 (.slice A4 (m + t + 1) c4) (m + (t + 1)) ((pre ++ tailB64 n (t + 1)).map B8) ∧ Below W1.heap.size W1 w4)
              clear hown4 hb4 hown hbw hy
              go_roundw
              case rel =>
                refine ⟨t + 1, by omega, ?_, HY⟩
                have := Hi.out
                go_num
              case measure => simp [lenV64]; omega
            · have g9 : ¬ (9 : Int) ≤ (i : Int) := by omega
              have g8 : ((i : Int) == 8) = false := by simp; omega
              have hb0 : lenB64 n i = UInt8.ofNat ((X <<< 3) >>> (8 * i)).toNat := by rw [lenB64, if_neg h9, if_neg h8, HX2.out]
              rw [hb0] at hby
              have z3 : ∀ t k, binOp .shr t (V64 (X <<< 3)) (.int k (8 * (i : Int))) = pure (V64 ((X <<< 3) >>> (8 * i))) := fun t k => binOp_shr64 t k _ (8 * i) (8 * (i : Int)) (by omega) (by have := Hi.out; omega)
              clear h8
              go_wp2_with (at_builtin; refine wpList_append_keep rfl (.tmp 52) (.tmp 59) 22 rfl W1 (hbw.alloc hbw.size _) Try.underlying22 info_u8 rfl (by decide) (.slice At (m + t) ct) (m + t) _ rfl (hown.alloc _) (some ⟨wr.heap.size, 0, none⟩) 1 1 [B8 (UInt8.ofNat ((X <<< 3) >>> (8 * i)).toNat)] rfl (rc_new wr _ _ _) rfl (b8_oneCell [_]) (by unfold maxLen; omega) (by omega) ?_; intro v4 w4 hown4 hb4 _ _ _)
              obtain ⟨A4, c4, rfl, -, -, -, -⟩ := own_form hown4
              have HY := Lib.hid (⟨by rw [Hbt.out, ← List.append_assoc, List.map_append, hby]; exact hown4, hb4⟩ : w4.ownsRow W1.heap.size 5 1 (.slice A4 (m + t + 1) c4) (m + (t + 1)) ((pre ++ tailB64 n (t + 1)).map B8) ∧ Below W1.heap.size W1 w4)
              clear hown4 hb4 hown hbw hy
              go_roundw
              case rel =>
                refine ⟨t + 1, by omega, ?_, HY⟩
                have := Hi.out
                go_num
              case measure => simp [lenV64]; omega
        · obtain rfl : t = 16 := by omega
          have hown := hy.out.1
          have hbw := hy.out.2
          have hpad : pre ++ tailB64 n 16 = padded64 text := by rw [Hpr.out, Hjz.out, padded64, Hn'.out]
          have hplen := padded64_len text
          have hlen : (padded64 text).length = m + 16 := by rw [← hpad]; have := hown.1; simpa using this
          rw [hlen, ← Hn'.out] at hplen
          rw [hpad] at hown
          obtain ⟨cnt, hcnt⟩ : ∃ cnt, cnt = cnt64 n := ⟨_, rfl⟩
          rw [← hcnt] at hplen
          have hRB : RB wr At (m + 16) (padded64 text) := by
            obtain ⟨A', c', e, _, _, h, _⟩ := own_form hown
            injection e with e1 e2 e3
            subst e1 e3
            exact h
          obtain ⟨k1, k2, k3, k4, k5⟩ := Kept.out wr hbw
          have hblt : b < wr.heap.size := World.block_lt_of_cell? wr ⟨b, 0, none⟩ k2
          have g0 : wr.cell? ⟨b, 2, none⟩ = some (V64 s0.a) := k5 0 _ rfl
          have g1 : wr.cell? ⟨b, 3, none⟩ = some (V64 s0.b) := k5 1 _ rfl
          have g2 : wr.cell? ⟨b, 4, none⟩ = some (V64 s0.c) := k5 2 _ rfl
          have g3 : wr.cell? ⟨b, 5, none⟩ = some (V64 s0.d) := k5 3 _ rfl
          have g4 : wr.cell? ⟨b, 6, none⟩ = some (V64 s0.e) := k5 4 _ rfl
          have g5 : wr.cell? ⟨b, 7, none⟩ = some (V64 s0.f) := k5 5 _ rfl
          have g6 : wr.cell? ⟨b, 8, none⟩ = some (V64 s0.g) := k5 6 _ rfl
          have g7 : wr.cell? ⟨b, 9, none⟩ = some (V64 s0.h) := k5 7 _ rfl
          have Hplen := Lib.hid hplen
          have Hcnt := Lib.hid hcnt
          have Hlen := Lib.hid hlen
          obtain ⟨Lx, hLx⟩ : ∃ Lx, Lx = m + 16 := ⟨_, rfl⟩
          rw [← hLx] at hRB hct1 hown ⊢
          have HLx := Lib.hid hLx
          have hLm : Lx ≤ n + 2 * 128 + 32 := by omega
          have hAt : ∀ ad, At = some ad → 0 < Lx → ad.block < wr.heap.size := by
            rintro ad rfl h0
            obtain ⟨b', o', e, _⟩ := hRB.2 h0
            cases e
            exact RV.lt hRB h0
          have Hpad := Lib.hid hpad
          have Hown := Lib.hid hown
          clear hy hown hpad hplen hlen hcnt hLx k4 k5 q1 q2 q3
          have e1 : (16 : Int) - 1 - ((16 : Nat) : Int) = -1 := by decide
          rw [e1]
          clear e1
          obtain ⟨w5, rfl⟩ : ∃ w5, w5 = wr := ⟨_, rfl⟩
          go_wp2_with fail
          refine (chunk_any _ At Lx ct 128 (by decide)).mono ?_
          rintro e w6 ⟨rfl, hw6⟩
          go_wp2_with fail
          rw [show w5.heap.size + 1 + 1 = w5.heap.size + 2 from rfl]
          have h6 : Below w5.heap.size w5 w6 := by rw [← hw6]; exact (((Below.refl _ _).alloc (Nat.le_refl _) _).alloc (by simp) _).alloc (by simp; omega) _
          have a6 : w6.heap[w5.heap.size]? = some (.cells (cells64 s0).toArray 108 (0, 0)) := by
            rw [← hw6]
            exact (Below.heap_alloc _ _ _ (by simp; omega)).trans ((Below.heap_alloc _ _ _ (by simp)).trans (heap_alloc_new w5 _))
          have c6 : w6.heap[w5.heap.size + 1]? = some (.cells #[.slice At Lx ct] 22 (0, 0)) := by
            rw [← hw6]
            exact (Below.heap_alloc _ _ _ (by simp)).trans (heap_alloc_at _ _ _ (by simp))
          have d6 : w6.heap[w5.heap.size + 2]? = some (.cells #[.int .i64 128] 3 (0, 0)) := by
            rw [← hw6]
            exact heap_alloc_at _ _ _ (by simp)
          have s6 : w6.heap.size = w5.heap.size + 3 := by rw [← hw6]; simp
          have hcL := Lib.hid (show Lx = cnt * 128 by rw [HLx.out]; exact Hplen.out)
          refine wp_rangeIterF (n := 9) rfl (enters_of Try.func108 (by kernel_rfl) rfl) (chunk1_iter (w5.heap.size + 1) (w5.heap.size + 2) At Lx ct 128 cnt (padded64 text) w5.heap.size (by omega) hct1 hct2 (by decide) hcL.out) (fun k args W h => chOk_size h) (fun h k => chKp_t h k)
            (fun W l o o' hl h _ => chKp_b (m := w6.heap.size) (by omega) (by omega) (by omega) o' hl h) (fun k args W l o o' h _ hl ho => chOk_putObj h o' hl ho)
            (fun k W => DigIn64 w5 At Lx ct (pieces64 K s0 (padded64 text) k) W) (fun _ _ _ => False)
            (fun k W W' h hb => h.stable hb) (fun c k W W' h hb => h)
            (fun k W l o o' h hl ho hoc => h.abides (by omega) o' ho hoc) (fun c k W l o o' h _ _ _ => h)
            (fun W hb => ⟨(hb.cell (p := ⟨w5.heap.size + 1, 0, none⟩) (by show w5.heap.size + 1 < w6.heap.size; omega)).trans (by rw [cell_of_row _ _ _ _ _ _ c6]; rfl), (hb.cell (p := ⟨w5.heap.size + 2, 0, none⟩) (by show w5.heap.size + 2 < w6.heap.size; omega)).trans (by rw [cell_of_row _ _ _ _ _ _ d6]; rfl), (RV.below (RV.below hRB h6) hb), hAt⟩)
            ⟨h6, by omega, rangeAt_blk a6, there_blk a6 (by simp [cells64]), c6, d6⟩
            (fun args T => (T.setIfInBounds 83 (args.getD 0 undef)).setIfInBounds 10 (args.getD 0 undef))
            ?assign ?body ?done ?stop
          case assign =>
            rintro l k args W K ⟨B, rfl, _⟩ hK
            gi_wp2
            simpa using hK
          case body =>
            rintro l k args W hk hI ⟨B, rfl, hB⟩
            simp only [show ∀ a : Value, #[a].getD 0 undef = a from fun _ => rfl, List.setIfInBounds_toArray, List.set_cons_succ, List.set_cons_zero]
            obtain ⟨k1', k2', k3', k4', -⟩ := Kept.out W (hbw.trans (hI.below.mono hbw.size))
            obtain ⟨st, hst⟩ : ∃ st, st = pieces64 K s0 (padded64 text) k := ⟨_, rfl⟩
            obtain ⟨sn, hsn⟩ : ∃ sn, sn = pieceSt64 K st (chunkOf (padded64 text) 128 k) := ⟨_, rfl⟩
            have hnx : pieces64 K s0 (padded64 text) (k + 1) = sn := by rw [pieces64, ← hst, hsn]
            rw [← hst] at hI
            have e0 : W.cell? ⟨w5.heap.size, 0, none⟩ = some (V64 st.a) := by simpa using hI.st 0 _ rfl
            have e1 : W.cell? ⟨w5.heap.size, 1, none⟩ = some (V64 st.b) := by simpa using hI.st 1 _ rfl
            have e2 : W.cell? ⟨w5.heap.size, 2, none⟩ = some (V64 st.c) := by simpa using hI.st 2 _ rfl
            have e3 : W.cell? ⟨w5.heap.size, 3, none⟩ = some (V64 st.d) := by simpa using hI.st 3 _ rfl
            have e4 : W.cell? ⟨w5.heap.size, 4, none⟩ = some (V64 st.e) := by simpa using hI.st 4 _ rfl
            have e5 : W.cell? ⟨w5.heap.size, 5, none⟩ = some (V64 st.f) := by simpa using hI.st 5 _ rfl
            have e6 : W.cell? ⟨w5.heap.size, 6, none⟩ = some (V64 st.g) := by simpa using hI.st 6 _ rfl
            have e7 : W.cell? ⟨w5.heap.size, 7, none⟩ = some (V64 st.h) := by simpa using hI.st 7 _ rfl
            have HI := Lib.hid hI
            have Hnx := Lib.hid hnx
            obtain ⟨ch, hch⟩ : ∃ ch, ch = chunkOf (padded64 text) 128 k := ⟨_, rfl⟩
            rw [← hch] at hB hsn
            have hpc := piece64_any W b gT cT K k4' st B ch hB
            rw [← hsn] at hpc
            have Hpc := Lib.hid hpc
            clear hI hnx hst hch hsn hpc hB
            gi_wp2_with fail
            refine ⟨trivial, CallsIn.inRound l (callsIn_wide.2 (Hpc.out.mono ?_))⟩
            rintro e W' ⟨rfl, hb'⟩
            have hI' := HI.out.stable hb'
            have th' : W'.there w5.heap.size 0 (cells64 sn).toArray.size := hI'.th
            have HI' := Lib.hid hI'
            clear hI' e0 e1 e2 e3 e4 e5 e6 e7 k1' k2' k3'
            gi_wp2_with ((with_reducible show wpListIn _ _ _ _ _ (⟨_, Op.store 108 _ _, _, _, _, _⟩ :: _) _ _); refine wpListIn_store_row rfl _ _ _ rfl w5.heap.size 0 (cells64 sn).toArray rfl rfl th' (by kernel_rfl) (by simp [cells64]) ?_; intro w8 hg8 hs8 ht8 hth8)
            have fin := HI'.out.step hg8 hs8.out (by simpa using ht8) hth8
            refine ⟨(keepsOthers_below hb').trans fin.2.1, chKp_t ⟨hb'.mono HI.out.below.size, hb'.cell (p := ⟨w5.heap.size + 1, 0, none⟩) (by have := HI.out.sz; show w5.heap.size + 1 < W.heap.size; omega), hb'.cell (p := ⟨w5.heap.size + 2, 0, none⟩) (by have := HI.out.sz; show w5.heap.size + 2 < W.heap.size; omega)⟩ fin.2.2, ?_⟩
            show DigIn64 w5 At Lx ct (pieces64 K s0 (padded64 text) (k + 1)) w8
            rw [Hnx.out]
            exact fin.1
          case done =>
            rintro D W hD hI hK
            have hI2 : DigIn64 w5 At Lx ct (pieces64 K s0 (padded64 text) cnt) W := hI
            obtain ⟨u, hu⟩ : ∃ u, u = pieces64 K s0 (padded64 text) cnt := ⟨_, rfl⟩
            rw [← hu] at hI2
            have hdig : digest64 K s0 text = out64 u 8 := by rw [digest64, hu, Hcnt.out, Hn'.out]
            have Hdig := Lib.hid hdig
            have e0 : W.cell? ⟨w5.heap.size, 0, none⟩ = some (V64 u.a) := by simpa using hI2.st 0 _ rfl
            have e1 : W.cell? ⟨w5.heap.size, 1, none⟩ = some (V64 u.b) := by simpa using hI2.st 1 _ rfl
            have e2 : W.cell? ⟨w5.heap.size, 2, none⟩ = some (V64 u.c) := by simpa using hI2.st 2 _ rfl
            have e3 : W.cell? ⟨w5.heap.size, 3, none⟩ = some (V64 u.d) := by simpa using hI2.st 3 _ rfl
            have e4 : W.cell? ⟨w5.heap.size, 4, none⟩ = some (V64 u.e) := by simpa using hI2.st 4 _ rfl
            have e5 : W.cell? ⟨w5.heap.size, 5, none⟩ = some (V64 u.f) := by simpa using hI2.st 5 _ rfl
            have e6 : W.cell? ⟨w5.heap.size, 6, none⟩ = some (V64 u.g) := by simpa using hI2.st 6 _ rfl
            have e7 : W.cell? ⟨w5.heap.size, 7, none⟩ = some (V64 u.h) := by simpa using hI2.st 7 _ rfl
            have HS := Lib.hid (⟨World.ownsRow_nil _ _ _ _, hbw.trans (hI2.below.mono hbw.size), hK⟩ : W.ownsRow W1.heap.size 5 1 (.slice none 0 0) 0 ((out64 u 0).map B8) ∧ Below W1.heap.size W1 W ∧ W.heap[D]? = some (.deferred (some [])))
            clear hI hI2 hK hu hdig
            simp only [Exit.inBlock, Exit.then]
            go_wp2_with fail
            clear e0 e1 e2 e3 e4 e5 e6 e7
            go_loopw [11, 89] (fun a i wr => ∃ k : Nat, k ≤ 8 ∧ i = .int .i64 k ∧ Hid (wr.ownsRow W1.heap.size 5 1 a (k * 8) ((out64 u k).map B8) ∧ Below W1.heap.size W1 wr ∧ wr.heap[D]? = some (.deferred (some [])))) (fun _ i _ => 8 - (intOf i).toNat)
            case atStart => exact ⟨0, by omega, rfl, by simpa using HS⟩
            case round =>
              obtain ⟨k, hk, rfl, hq⟩ := hrel
              by_cases hkl : k < 8
              · have hidx := index864 u k hkl
                have hd8 : decide ((k : Int) < 8) = true := decide_eq_true (by omega)
                have hsucc := out64_succ u k hkl
                obtain ⟨x, hx⟩ : ∃ x, x = (words864 u).getD k 0 := ⟨_, rfl⟩
                rw [← hx] at hidx hsucc
                have Hsucc := Lib.hid hsucc
                obtain ⟨p1', p2', -, -, -⟩ := Kept.out wr hq.out.2.1
                have HQ := Lib.hid (show wr.ownsRow W1.heap.size 5 1 u11 (k * 8 + 0) ((out64 u k ++ wordB64 x 0).map B8) ∧ Below W1.heap.size W1 wr ∧ wr.heap[D]? = some (.deferred (some [])) by simpa [wordB64] using hq.out)
                clear hx hsucc hq
                go_wp2_with fail
                go_loopw [11, 14] (fun a i wr => ∃ j : Nat, j ≤ 8 ∧ i = .int .i64 (64 - 8 - 8 * (j : Int)) ∧ Hid (wr.ownsRow W1.heap.size 5 1 a (k * 8 + j) ((out64 u k ++ wordB64 x j).map B8) ∧ Below W1.heap.size W1 wr ∧ wr.heap[D]? = some (.deferred (some [])))) (fun a _ _ => k * 8 + 8 - lenV64 a)
                case atStart => exact ⟨0, by omega, rfl, HQ⟩
                case round =>
                  obtain ⟨j, hj, rfl, hy⟩ := hrel
                  obtain ⟨Aj2, cj2, rfl, -, -, -, -⟩ := own_form hy.out.1
                  by_cases hjl : j < 8
                  · obtain ⟨i, hi⟩ : ∃ i, i = 64 - 8 - 8 * j := ⟨_, rfl⟩
                    have hie : (64 : Int) - 8 - 8 * (j : Int) = (i : Int) := by omega
                    rw [hie]
                    have hwb : wordB64 x (j + 1) = wordB64 x j ++ [UInt8.ofNat (x >>> i).toNat] := by rw [wordB64, hi]
                    have Hi := Lib.hid hi
                    have Hwb := Lib.hid hwb
                    have hiN : i ≤ 64 - 8 := by omega
                    have zz : ∀ t k', binOp .shr t (V64 x) (.int k' (i : Int)) = pure (V64 (x >>> i)) := fun t k' => binOp_shr64 t k' x i (i : Int) rfl (by omega)
                    have hown := hy.out.1
                    have hbw3 := hy.out.2.1
                    clear hie hi hwb
                    go_wp2_with (at_builtin; refine wpList_append_keep rfl (.tmp 101) (.tmp 106) 22 rfl W1 (hbw3.alloc hbw3.size _) Try.underlying22 info_u8 rfl (by decide) (.slice Aj2 (k * 8 + j) cj2) (k * 8 + j) _ rfl (hown.alloc _) (some ⟨wr.heap.size, 0, none⟩) 1 1 [B8 (UInt8.ofNat (x >>> i).toNat)] rfl (rc_new wr _ _ _) rfl (b8_oneCell [_]) (by unfold maxLen; omega) (by omega) ?_; intro v4 w4 hown4 hb4 _ hgr4 _)
                    obtain ⟨A4, c4, rfl, -, -, -, -⟩ := own_form hown4
                    have hD4 : w4.heap[D]? = some (.deferred (some [])) := (hgr4.block D (by have := (Array.getElem?_eq_some_iff.1 hy.out.2.2).1; simp; omega) (fun e => own_notObj64 (hy.out.1) hy.out.2.2 rfl e.symm)).trans (heap_below hy.out.2.2 ((Below.refl _ _).alloc (Nat.le_refl _) _))
                    have HY := Lib.hid (⟨by rw [Hwb.out, ← List.append_assoc, List.map_append]; exact hown4, hb4, hD4⟩ : w4.ownsRow W1.heap.size 5 1 (.slice A4 (k * 8 + j + 1) c4) (k * 8 + (j + 1)) ((out64 u k ++ wordB64 x (j + 1)).map B8) ∧ Below W1.heap.size W1 w4 ∧ w4.heap[D]? = some (.deferred (some [])))
                    clear hown4 hb4 hD4 hgr4 hown hbw3 hy
                    go_roundw
                    case rel =>
                      refine ⟨j + 1, by omega, ?_, HY⟩
                      have := Hi.out
                      go_num
                    case measure => simp [lenV64]; omega
                  · obtain rfl : j = 8 := by omega
                    have HZ := Lib.hid (⟨by rw [Hsucc.out, show (k + 1) * 8 = k * 8 + 8 by omega]; exact hy.out.1, hy.out.2⟩ : wr.ownsRow W1.heap.size 5 1 (.slice Aj2 (k * 8 + 8) cj2) ((k + 1) * 8) ((out64 u (k + 1)).map B8) ∧ Below W1.heap.size W1 wr ∧ wr.heap[D]? = some (.deferred (some [])))
                    clear hy
                    go_wp2
                    go_roundw
                    case rel => exact ⟨k + 1, hkl, by go_num, HZ⟩
                    case measure => simp [intOf]; omega
              · obtain rfl : k = 8 := by omega
                go_wp2
                refine ⟨by simp, .inl ⟨_, _, rfl, run_takeDeferred hq.out.2.2, ?_⟩⟩
                have hfin : wr.ownsRow w.heap.size 5 1 u11 (out64 u 8).length ((out64 u 8).map B8) := by
                  rw [out64_len u 8 (Nat.le_refl _)]
                  exact ownsRow_base hq.out.1 HW1b.out.size
                refine ⟨_, results_tmp rfl _ _ _, _, rfl, ?_, ?_⟩
                · rw [Hdig.out]
                  exact ownsRow_putObj hfin _ hq.out.2.2 rfl
                · have hb9 := HW1b.out.trans (hq.out.2.1.mono HW1b.out.size)
                  exact below_putObj _ D _ hb9 (by have := HW1b.out.size; have := hbw.size; have := h6.size; omega) hb9.size
          case stop =>
            intro D c k W _ _ h _
            exact h.elim
    · have hB : ((m : Int) % 128 != 112) = true := by
        have : ¬ m % 128 = 128 - 16 := fun h => hjz (hzm.1 h)
        simp
        omega
      have hjl : j + 1 ≤ zc64 n := by omega
      have hown := hx.out.1
      have hbw := hx.out.2
      clear hzm hjz
      go_wp2_with fail
      go_quiet (fail)
      have hown' := ownsRow_below hown (below_drewN (Below.refl _ _) nq)
      have hbw' := below_drewN hbw nq
      generalize wr.drewN nq = w3 at hown' hbw' ⊢
      go_wp2_with (at_builtin; refine wpList_append_keep rfl (.tmp 40) (.tmp 41) 22 rfl W1 (hbw'.alloc hbw'.size _) Try.underlying22 info_u8 rfl (by decide) (.slice Aj m cj) m _ rfl (hown'.alloc _) (some ⟨w3.heap.size, 0, none⟩) 1 1 [B8 0] rfl (rc_new w3 _ _ _) rfl (b8_oneCell [0]) (by unfold maxLen; omega) (by omega) ?_; intro v4 w4 hown4 hb4 _ _ _)
      obtain ⟨A4, c4, rfl, -, -, -, -⟩ := own_form hown4
      have HY := Lib.hid (⟨by rw [show n + 1 + (j + 1) = m + 1 by have := Hm.out; omega, List.replicate_succ', ← List.append_assoc, List.map_append]; exact hown4, hb4⟩ : w4.ownsRow W1.heap.size 5 1 (.slice A4 (m + 1) c4) (n + 1 + (j + 1)) ((text ++ [128] ++ List.replicate (j + 1) 0).map B8) ∧ Below W1.heap.size W1 w4)
      clear hown4 hb4 hown' hbw' hown hbw hx
      go_roundw
      case rel => exact ⟨j + 1, hjl, HY⟩
      case measure => have := Hm.out; simp [lenV64]; omega
end Go.Proofs.Ytkcmacglomdfcaa
