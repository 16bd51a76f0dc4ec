/-
  THE WALKS of slices.Chunk and its iterator, over a row whose length is a multiple of the piece.
-/
import Derived.Test.YtkcmacglomdfcaaNum
import Derived.Test.YtkcmacglomdfcaaIter
import Derived.Deep.RegionHeld3
import Derived.Deep.QuietTactic
import Derived.BigQuiet
import Derived.WalkSmall
namespace Go.Proofs.Ytkcmacglomdfcaa
open Go.RowKit Go.Shelf
attribute [local go_sem] Oper.semAt_some

/-- Piece k of a row. -/
def chunkOf (bs : List UInt8) (n k : Nat) : List UInt8 := (bs.drop (k * n)).take n
theorem chunkOf_len {bs : List UInt8} {n k cnt : Nat} (hl : bs.length = cnt * n) (hk : k < cnt) : (chunkOf bs n k).length = n := by
  have : (k + 1) * n ≤ cnt * n := Nat.mul_le_mul_right _ hk
  rw [Nat.add_mul] at this
  simp [chunkOf]
  omega
/-- What round k is handed. -/
def ChOk (bs : List UInt8) (n k : Nat) (args : Array Value) (W : World) : Prop := ∃ A, args = #[.slice A n n] ∧ RB W A n (chunkOf bs n k)
def ChKp (n₀ b1 b2 : Nat) (W W' : World) : Prop := Below n₀ W W' ∧ W'.cell? ⟨b1, 0, none⟩ = W.cell? ⟨b1, 0, none⟩ ∧ W'.cell? ⟨b2, 0, none⟩ = W.cell? ⟨b2, 0, none⟩
theorem chKp_t {n₀ b1 b2 : Nat} {A B C : World} (h : ChKp n₀ b1 b2 A B) (k : ChKp n₀ b1 b2 B C) : ChKp n₀ b1 b2 A C := ⟨h.1.trans k.1, k.2.1.trans h.2.1, k.2.2.trans h.2.2⟩
theorem chKp_b {n₀ b1 b2 : Nat} {W : World} {l m : Nat} {o : Obj} (hn : n₀ ≤ m) (hb1 : b1 < m) (hb2 : b2 < m) (o' : Obj) (hl : m ≤ l) (h : W.heap[l]? = some o) : ChKp n₀ b1 b2 W (W.putObj l o') := by
  have hlt := (Array.getElem?_eq_some_iff.1 h).1
  refine ⟨below_putObj W l o' (Below.refl _ _) (by omega) (by omega), ?_, ?_⟩
  · exact World.cell?_of_block (w := W) (World.putObj_heap_other (by show b1 ≠ l; omega))
  · exact World.cell?_of_block (w := W) (World.putObj_heap_other (by show b2 ≠ l; omega))
theorem chOk_size {bs : List UInt8} {n k : Nat} {args : Array Value} {W : World} (h : ChOk bs n k args W) : args.size = 1 := by
  obtain ⟨A, rfl, _⟩ := h
  rfl
theorem chOk_putObj {bs : List UInt8} {n k l : Nat} {args : Array Value} {W : World} {o : Obj} (h : ChOk bs n k args W) (o' : Obj) (hl : W.heap[l]? = some o) (ho : o.isCells = false) : ChOk bs n k args (W.putObj l o') := by
  obtain ⟨A, h1, h2⟩ := h
  exact ⟨A, h1, RV.putObj h2 o' hl ho⟩

set_option maxRecDepth 100000 in
set_option maxHeartbeats 4000000 in
theorem chunk1_iter (b1 b2 : Nat) (A : Option Addr) (L c n cnt : Nat) (bs : List UInt8) (n₀ : Nat) (hL : L ≤ 140737488351232) (hc : L ≤ c) (hcm : c ≤ maxLen) (hn : 1 ≤ n) (hcnt : L = cnt * n) :
    IterOf Try.prog 108 #[.pointer (some ⟨b1, 0, none⟩), .pointer (some ⟨b2, 0, none⟩)] cnt (ChOk bs n) (ChKp n₀ b1 b2)
      (fun W => W.cell? ⟨b1, 0, none⟩ = some (.slice A L c) ∧ W.cell? ⟨b2, 0, none⟩ = some (.int .i64 n) ∧ RB W A L bs ∧ ∀ ad, A = some ad → 0 < L → ad.block < n₀) := by
  intro m l J Jx W sJ sJx hpre hY h0
  obtain ⟨hb, hbn, hr, hbl⟩ := hpre
  have hrow : bs.length = L := hr.len
  have Hrow := Lib.hid hrow
  have Hcnt := Lib.hid hcnt
  unfold maxLen at hcm
  refine callsIn_of_wp Try.func108 rfl trivial ?_ rfl
  simp only [Try.ntmps108, List.size_toArray, List.length_cons, List.length_nil, Nat.reduceAdd, Nat.reduceSub, Array.replicate_succ, Array.replicate_zero, List.push_toArray, List.append_toArray, List.nil_append, List.cons_append]
  clear hrow hcnt
  gi_wp2_with fail
  gi_loopw [4] (fun i wr => ∃ (k : Nat), k ≤ cnt ∧ i = .int .i64 ((k * n : Nat) : Int) ∧ J k wr ∧ wr.cell? ⟨b1, 0, none⟩ = some (.slice A L c) ∧ wr.cell? ⟨b2, 0, none⟩ = some (.int .i64 n) ∧ RB wr A L bs) (fun i _ => L - (intOf i).toNat)
  case atStart => exact ⟨0, Nat.zero_le _, by simp, h0, hb, hbn, hr⟩
  case round =>
    obtain ⟨k, hk, rfl, hJ, hcell, hcn, hrr⟩ := hrel
    obtain ⟨i, hi⟩ : ∃ i, i = k * n := ⟨_, rfl⟩
    rw [← hi]
    by_cases hkl : k < cnt
    · have hiL : i + n ≤ L := by
        have := Nat.mul_le_mul_right n (show k + 1 ≤ cnt from hkl)
        rw [Nat.add_mul] at this
        rw [hi, Hcnt.out]
        omega
      have hin : (k + 1) * n = i + n := by rw [hi, Nat.add_mul, Nat.one_mul]
      have Hi := Lib.hid hi
      have Hin := Lib.hid hin
      clear hi hin
      obtain ⟨ba, oa, rfl, _⟩ := hrr.2 (by omega)
      have hcut : RB wr (some ⟨ba, oa + i, none⟩) n (chunkOf bs n k) := by
        have h1 := (hrr.cut (k := i) (cap := c) (by omega) hc).take (k := n) (by omega)
        rw [if_neg (by omega)] at h1
        rw [chunkOf, ← Hi.out]
        simpa [Addr.add_mid] using h1
      have q1 : (0 : Int) ≤ (i : Int) := by omega
      have q2 : (i : Int) ≤ (L : Int) := by omega
      have q3 : (i : Int) < (L : Int) := by omega
      have q4 : i ≤ L := by omega
      have q5 : i < L := by omega
      have q6 : ¬ c = i := by omega
      have q7 : (L : Int) - (i : Int) = ((L - i : Nat) : Int) := by omega
      have q8 : (if L - i < n then ((L - i : Nat) : Int) else (n : Int)) = (n : Int) := if_neg (by omega)
      have q9 : (i : Int) + (n : Int) ≤ (c : Int) := by omega
      gi_wp2_with fail
      rw [wpIn_wide]
      go_region_held3 (fun w' => w'.cell? ⟨b1, 0, none⟩ = some (.slice (some ⟨ba, oa, none⟩) L c) ∧ w'.cell? ⟨b2, 0, none⟩ = some (.int .i64 n)) (go_keep) (fail)
      have hbd : Below wr.heap.size wr wr.drew := below_drewN (Below.refl _ _) 1
      have J1 := sJ _ _ _ hJ hbd
      have hcell1 : wr.drew.cell? ⟨b1, 0, none⟩ = some (.slice (some ⟨ba, oa, none⟩) L c) := hcell
      have hcn1 : wr.drew.cell? ⟨b2, 0, none⟩ = some (.int .i64 n) := hcn
      have hcut1 := hcut.below hbd
      have hr1 := hrr.below hbd
      generalize wr.drew = w1 at J1 hcell1 hcn1 hcut1 hr1 ⊢
      clear hbd hJ hcell hcn hcut hrr q7
      obtain ⟨fn, tmps, assign, body, hy, hR⟩ := hY k #[.slice (some ⟨ba, oa + i, none⟩) n n] w1 hkl J1 ⟨_, rfl, hcut1⟩
      gi_wp2_with fail
      refine ⟨fun h => by simp [Fence.wide] at h, hR.mono ?_⟩
      rintro e w3 (⟨rfl, hJ3, hk3, hkc3, hkn3⟩ | ⟨rfl, hJx3⟩)
      · have hr3 := hr1.belowB hk3 hbl
        have hcell3 := hkc3.trans hcell1
        have hcn3 := hkn3.trans hcn1
        have hcnt1 : i + n ≤ 9223372036854775807 := by omega
        clear hkc3 hkn3 hk3 hcell1 hcn1 hr1
        gi_wp2_with fail
        go_roundw
        case rel => exact ⟨k + 1, hkl, by rw [Hin.out]; go_num, hJ3, hcell3, hcn3, hr3⟩
        case measure => simp [intOf]; omega
      · gi_wp2_with fail
        refine bodyPost_ret (results_none rfl _ _ _) rfl ?_
        exact ⟨⟨_, rfl⟩, .inr ⟨k, hkl, hJx3⟩⟩
    · obtain rfl : k = cnt := by omega
      have hiL : i = L := by rw [hi, Hcnt.out]
      subst hiL
      gi_wp2_with fail
      refine bodyPost_end (results_none rfl _ _ _) rfl ?_
      exact ⟨⟨_, rfl⟩, .inl hJ⟩

theorem chunk_any (w : World) (A : Option Addr) (L c : Nat) (n : Int) (hn : 1 ≤ n) :
    Calls Try.prog 99 #[.slice A L c, .int .i64 n] w fun e w' => e = .returned (.func (.func 108) #[] #[.pointer (some ⟨w.heap.size, 0, none⟩), .pointer (some ⟨w.heap.size + 1, 0, none⟩)]) ∧
      (w.alloc (.cells #[.slice A L c] 22)).alloc (.cells #[.int .i64 n] 3) = w' := by
  have hn' : ¬ n < 1 := by omega
  go_enter Try.func99, Try.ntmps99
  go_wp2
  go_ret
  exact ⟨rfl, rfl⟩
end Go.Proofs.Ytkcmacglomdfcaa
