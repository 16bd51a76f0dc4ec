/-
  THE WALKS of turn and mix: words turned, and put together (words of 64 bits).
-/
import Derived.Test.YtkcmacglomdfcaaSmA64
import Derived.Deep.QuietTactic
import Derived.BigQuiet
import Derived.WalkSmall
import Derived.Deep.RegionHeld3
namespace Go.Proofs.Ytkcmacglomdfcaa
open Go.RowKit

def rot64 (x : BitVec 64) (n : Nat) : BitVec 64 := x >>> n ||| x <<< (64 - n)

theorem turn64_any (w : World) (b : Nat) (x : BitVec 64) (n : Nat) (hn : n ≤ 64) (hb : w.cell? ⟨b, 0, none⟩ = some (.int .i64 64)) :
    Calls Try.prog 113 #[.pointer (some ⟨b, 0, none⟩), V64 x, .int .i64 (n : Int)] w fun e w' => e = .returned (V64 (rot64 x n)) ∧ ∃ m, w' = w.drewN m := by
  have h1 := fun t k => binOp_shr64 t k x n (n : Int) rfl hn
  have h2 := fun t k => binOp_shl64 t k x (64 - n) (64 - (n : Int)) (by omega) (by omega)
  go_enter Try.func113, Try.ntmps113
  go_wp2_with fail
  go_quiet (fail)
  go_wp2
  go_ret
  exact ⟨rfl, _, rfl⟩
theorem turn64_lit (w : World) (b : Nat) (x : BitVec 64) (n : Nat) (m : Int) (hm : m = (n : Int)) (hn : n ≤ 64) (hb : w.cell? ⟨b, 0, none⟩ = some (.int .i64 64)) :
    Calls Try.prog 113 #[.pointer (some ⟨b, 0, none⟩), V64 x, .int .i64 m] w fun e w' => e = .returned (V64 (rot64 x n)) ∧ ∃ m, w' = w.drewN m := by
  subst hm
  exact turn64_any w b x n hn hb
def mx640 (x : BitVec 64) : BitVec 64 := rot64 x 28 ^^^ rot64 x 34 ^^^ rot64 x 39
theorem mix64_0 (w : World) (b : Nat) (x : BitVec 64) (hb : w.cell? ⟨b, 0, none⟩ = some (.int .i64 64)) (k0 : w.cell? ⟨b, 10, none⟩ = some (.int .i64 28)) (k1 : w.cell? ⟨b, 11, none⟩ = some (.int .i64 34)) (k2 : w.cell? ⟨b, 12, none⟩ = some (.int .i64 39)) :
    Calls Try.prog 110 #[.pointer (some ⟨b, 0, none⟩), V64 x, .int .i64 0] w fun e w' => e = .returned (V64 (mx640 x)) ∧ Below w.heap.size w w' := by
  have hlt : b < w.heap.size := World.block_lt_of_cell? w ⟨b, 0, none⟩ hb
  have hsh := fun t k => binOp_shr64 t k x 39 39 rfl (by decide)
  go_enter Try.func110, Try.ntmps110
  go_wp2_with fail
  refine (turn64_lit _ b x 39 39 rfl (by decide) ((World.cell?_alloc_past _ b 0 hlt).trans hb)).mono ?_
  rintro e w1 ⟨rfl, m1, hw1⟩
  have hB1 : Below w.heap.size w w1 := by rw [hw1]; exact below_drewN ((Below.refl w.heap.size w).alloc (Nat.le_refl _) _) m1
  have hb1 : w1.cell? ⟨b, 0, none⟩ = some (.int .i64 64) := (hB1.cell (p := ⟨b, 0, none⟩) hlt).trans hb
  have f : ∀ i v, (#[Value.int .i64 28, .int .i64 34, .int .i64 39])[i]? = some v → w1.cell? ⟨w.heap.size, i, none⟩ = some v := by
    intro i v hv
    rw [hw1]
    exact (World.cell?_alloc_at _ _ _ _ rfl).trans hv
  have f0 := f 0 _ rfl
  have f1 := f 1 _ rfl
  have f2 := f 2 _ rfl
  clear f hw1
  have S0 : ∀ w', Below w1.heap.size w1 w' → w'.cell? ⟨w.heap.size, 0, none⟩ = some (.int .i64 28) ∧ w'.cell? ⟨w.heap.size, 1, none⟩ = some (.int .i64 34) ∧ Below w1.heap.size w1 w' := fun w' hb' =>
    ⟨(hb'.cell (p := ⟨w.heap.size, 0, none⟩) (World.block_lt_of_cell? w1 _ f0)).trans f0, (hb'.cell (p := ⟨w.heap.size, 1, none⟩) (World.block_lt_of_cell? w1 _ f1)).trans f1, hb'⟩
  have C : ∀ wx (m : Int), Below w1.heap.size w1 wx → 0 ≤ m → m ≤ 64 → Calls Try.prog 113 #[.pointer (some ⟨b, 0, none⟩), V64 x, .int .i64 m] wx fun e w' => e = .returned (V64 (rot64 x m.toNat)) ∧ w'.cell? ⟨w.heap.size, 0, none⟩ = some (.int .i64 28) ∧ w'.cell? ⟨w.heap.size, 1, none⟩ = some (.int .i64 34) ∧ Below w1.heap.size w1 w' := fun wx m hb' hm hn =>
    (turn64_lit wx b x m.toNat m (by omega) (by omega) ((hb'.cell (p := ⟨b, 0, none⟩) (World.block_lt_of_cell? w1 _ hb1)).trans hb1)).mono fun e w' ⟨h1, k, h2⟩ => ⟨h1, S0 w' (by rw [h2]; exact below_drewN hb' k)⟩
  have HC := Lib.hid C
  have HS := Lib.hid S0
  clear C S0
  go_wp2_with fail
  go_region_held3 (fun w' => w'.cell? ⟨w.heap.size, 0, none⟩ = some (.int .i64 28) ∧ w'.cell? ⟨w.heap.size, 1, none⟩ = some (.int .i64 34) ∧ Below w1.heap.size w1 w') (first | exact HS.out _ (below_drewN (Below.refl _ _) 1) | assumption)
    (first | (go_at_call 113; refine (HC.out _ _ (And.right (And.right (by assumption))) (by decide) (by decide)).mono ?_; rintro e w' ⟨rfl, hs⟩))
  all_goals
    go_wp2
    go_ret
    refine ⟨?_, hB1.trans (hs.2.2.mono hB1.size)⟩
    unfold mx640
    rfl
def mx641 (x : BitVec 64) : BitVec 64 := rot64 x 14 ^^^ rot64 x 18 ^^^ rot64 x 41
theorem mix64_1 (w : World) (b : Nat) (x : BitVec 64) (hb : w.cell? ⟨b, 0, none⟩ = some (.int .i64 64)) (k0 : w.cell? ⟨b, 13, none⟩ = some (.int .i64 14)) (k1 : w.cell? ⟨b, 14, none⟩ = some (.int .i64 18)) (k2 : w.cell? ⟨b, 15, none⟩ = some (.int .i64 41)) :
    Calls Try.prog 110 #[.pointer (some ⟨b, 0, none⟩), V64 x, .int .i64 1] w fun e w' => e = .returned (V64 (mx641 x)) ∧ Below w.heap.size w w' := by
  have hlt : b < w.heap.size := World.block_lt_of_cell? w ⟨b, 0, none⟩ hb
  have hsh := fun t k => binOp_shr64 t k x 41 41 rfl (by decide)
  go_enter Try.func110, Try.ntmps110
  go_wp2_with fail
  refine (turn64_lit _ b x 41 41 rfl (by decide) ((World.cell?_alloc_past _ b 0 hlt).trans hb)).mono ?_
  rintro e w1 ⟨rfl, m1, hw1⟩
  have hB1 : Below w.heap.size w w1 := by rw [hw1]; exact below_drewN ((Below.refl w.heap.size w).alloc (Nat.le_refl _) _) m1
  have hb1 : w1.cell? ⟨b, 0, none⟩ = some (.int .i64 64) := (hB1.cell (p := ⟨b, 0, none⟩) hlt).trans hb
  have f : ∀ i v, (#[Value.int .i64 14, .int .i64 18, .int .i64 41])[i]? = some v → w1.cell? ⟨w.heap.size, i, none⟩ = some v := by
    intro i v hv
    rw [hw1]
    exact (World.cell?_alloc_at _ _ _ _ rfl).trans hv
  have f0 := f 0 _ rfl
  have f1 := f 1 _ rfl
  have f2 := f 2 _ rfl
  clear f hw1
  have S0 : ∀ w', Below w1.heap.size w1 w' → w'.cell? ⟨w.heap.size, 0, none⟩ = some (.int .i64 14) ∧ w'.cell? ⟨w.heap.size, 1, none⟩ = some (.int .i64 18) ∧ Below w1.heap.size w1 w' := fun w' hb' =>
    ⟨(hb'.cell (p := ⟨w.heap.size, 0, none⟩) (World.block_lt_of_cell? w1 _ f0)).trans f0, (hb'.cell (p := ⟨w.heap.size, 1, none⟩) (World.block_lt_of_cell? w1 _ f1)).trans f1, hb'⟩
  have C : ∀ wx (m : Int), Below w1.heap.size w1 wx → 0 ≤ m → m ≤ 64 → Calls Try.prog 113 #[.pointer (some ⟨b, 0, none⟩), V64 x, .int .i64 m] wx fun e w' => e = .returned (V64 (rot64 x m.toNat)) ∧ w'.cell? ⟨w.heap.size, 0, none⟩ = some (.int .i64 14) ∧ w'.cell? ⟨w.heap.size, 1, none⟩ = some (.int .i64 18) ∧ Below w1.heap.size w1 w' := fun wx m hb' hm hn =>
    (turn64_lit wx b x m.toNat m (by omega) (by omega) ((hb'.cell (p := ⟨b, 0, none⟩) (World.block_lt_of_cell? w1 _ hb1)).trans hb1)).mono fun e w' ⟨h1, k, h2⟩ => ⟨h1, S0 w' (by rw [h2]; exact below_drewN hb' k)⟩
  have HC := Lib.hid C
  have HS := Lib.hid S0
  clear C S0
  go_wp2_with fail
  go_region_held3 (fun w' => w'.cell? ⟨w.heap.size, 0, none⟩ = some (.int .i64 14) ∧ w'.cell? ⟨w.heap.size, 1, none⟩ = some (.int .i64 18) ∧ Below w1.heap.size w1 w') (first | exact HS.out _ (below_drewN (Below.refl _ _) 1) | assumption)
    (first | (go_at_call 113; refine (HC.out _ _ (And.right (And.right (by assumption))) (by decide) (by decide)).mono ?_; rintro e w' ⟨rfl, hs⟩))
  all_goals
    go_wp2
    go_ret
    refine ⟨?_, hB1.trans (hs.2.2.mono hB1.size)⟩
    unfold mx641
    rfl
def mx642 (x : BitVec 64) : BitVec 64 := rot64 x 1 ^^^ rot64 x 8 ^^^ x >>> 7
theorem mix64_2 (w : World) (b : Nat) (x : BitVec 64) (hb : w.cell? ⟨b, 0, none⟩ = some (.int .i64 64)) (k0 : w.cell? ⟨b, 16, none⟩ = some (.int .i64 1)) (k1 : w.cell? ⟨b, 17, none⟩ = some (.int .i64 8)) (k2 : w.cell? ⟨b, 18, none⟩ = some (.int .i64 7)) :
    Calls Try.prog 110 #[.pointer (some ⟨b, 0, none⟩), V64 x, .int .i64 2] w fun e w' => e = .returned (V64 (mx642 x)) ∧ Below w.heap.size w w' := by
  have hlt : b < w.heap.size := World.block_lt_of_cell? w ⟨b, 0, none⟩ hb
  have hsh := fun t k => binOp_shr64 t k x 7 7 rfl (by decide)
  go_enter Try.func110, Try.ntmps110
  go_wp2_with fail
  refine (turn64_lit _ b x 7 7 rfl (by decide) ((World.cell?_alloc_past _ b 0 hlt).trans hb)).mono ?_
  rintro e w1 ⟨rfl, m1, hw1⟩
  have hB1 : Below w.heap.size w w1 := by rw [hw1]; exact below_drewN ((Below.refl w.heap.size w).alloc (Nat.le_refl _) _) m1
  have hb1 : w1.cell? ⟨b, 0, none⟩ = some (.int .i64 64) := (hB1.cell (p := ⟨b, 0, none⟩) hlt).trans hb
  have f : ∀ i v, (#[Value.int .i64 1, .int .i64 8, .int .i64 7])[i]? = some v → w1.cell? ⟨w.heap.size, i, none⟩ = some v := by
    intro i v hv
    rw [hw1]
    exact (World.cell?_alloc_at _ _ _ _ rfl).trans hv
  have f0 := f 0 _ rfl
  have f1 := f 1 _ rfl
  have f2 := f 2 _ rfl
  clear f hw1
  have S0 : ∀ w', Below w1.heap.size w1 w' → w'.cell? ⟨w.heap.size, 0, none⟩ = some (.int .i64 1) ∧ w'.cell? ⟨w.heap.size, 1, none⟩ = some (.int .i64 8) ∧ Below w1.heap.size w1 w' := fun w' hb' =>
    ⟨(hb'.cell (p := ⟨w.heap.size, 0, none⟩) (World.block_lt_of_cell? w1 _ f0)).trans f0, (hb'.cell (p := ⟨w.heap.size, 1, none⟩) (World.block_lt_of_cell? w1 _ f1)).trans f1, hb'⟩
  have C : ∀ wx (m : Int), Below w1.heap.size w1 wx → 0 ≤ m → m ≤ 64 → Calls Try.prog 113 #[.pointer (some ⟨b, 0, none⟩), V64 x, .int .i64 m] wx fun e w' => e = .returned (V64 (rot64 x m.toNat)) ∧ w'.cell? ⟨w.heap.size, 0, none⟩ = some (.int .i64 1) ∧ w'.cell? ⟨w.heap.size, 1, none⟩ = some (.int .i64 8) ∧ Below w1.heap.size w1 w' := fun wx m hb' hm hn =>
    (turn64_lit wx b x m.toNat m (by omega) (by omega) ((hb'.cell (p := ⟨b, 0, none⟩) (World.block_lt_of_cell? w1 _ hb1)).trans hb1)).mono fun e w' ⟨h1, k, h2⟩ => ⟨h1, S0 w' (by rw [h2]; exact below_drewN hb' k)⟩
  have HC := Lib.hid C
  have HS := Lib.hid S0
  clear C S0
  go_wp2_with fail
  go_region_held3 (fun w' => w'.cell? ⟨w.heap.size, 0, none⟩ = some (.int .i64 1) ∧ w'.cell? ⟨w.heap.size, 1, none⟩ = some (.int .i64 8) ∧ Below w1.heap.size w1 w') (first | exact HS.out _ (below_drewN (Below.refl _ _) 1) | assumption)
    (first | (go_at_call 113; refine (HC.out _ _ (And.right (And.right (by assumption))) (by decide) (by decide)).mono ?_; rintro e w' ⟨rfl, hs⟩))
  all_goals
    go_wp2
    go_ret
    refine ⟨?_, hB1.trans (hs.2.2.mono hB1.size)⟩
    unfold mx642
    rfl
def mx643 (x : BitVec 64) : BitVec 64 := rot64 x 19 ^^^ rot64 x 61 ^^^ x >>> 6
theorem mix64_3 (w : World) (b : Nat) (x : BitVec 64) (hb : w.cell? ⟨b, 0, none⟩ = some (.int .i64 64)) (k0 : w.cell? ⟨b, 19, none⟩ = some (.int .i64 19)) (k1 : w.cell? ⟨b, 20, none⟩ = some (.int .i64 61)) (k2 : w.cell? ⟨b, 21, none⟩ = some (.int .i64 6)) :
    Calls Try.prog 110 #[.pointer (some ⟨b, 0, none⟩), V64 x, .int .i64 3] w fun e w' => e = .returned (V64 (mx643 x)) ∧ Below w.heap.size w w' := by
  have hlt : b < w.heap.size := World.block_lt_of_cell? w ⟨b, 0, none⟩ hb
  have hsh := fun t k => binOp_shr64 t k x 6 6 rfl (by decide)
  go_enter Try.func110, Try.ntmps110
  go_wp2_with fail
  refine (turn64_lit _ b x 6 6 rfl (by decide) ((World.cell?_alloc_past _ b 0 hlt).trans hb)).mono ?_
  rintro e w1 ⟨rfl, m1, hw1⟩
  have hB1 : Below w.heap.size w w1 := by rw [hw1]; exact below_drewN ((Below.refl w.heap.size w).alloc (Nat.le_refl _) _) m1
  have hb1 : w1.cell? ⟨b, 0, none⟩ = some (.int .i64 64) := (hB1.cell (p := ⟨b, 0, none⟩) hlt).trans hb
  have f : ∀ i v, (#[Value.int .i64 19, .int .i64 61, .int .i64 6])[i]? = some v → w1.cell? ⟨w.heap.size, i, none⟩ = some v := by
    intro i v hv
    rw [hw1]
    exact (World.cell?_alloc_at _ _ _ _ rfl).trans hv
  have f0 := f 0 _ rfl
  have f1 := f 1 _ rfl
  have f2 := f 2 _ rfl
  clear f hw1
  have S0 : ∀ w', Below w1.heap.size w1 w' → w'.cell? ⟨w.heap.size, 0, none⟩ = some (.int .i64 19) ∧ w'.cell? ⟨w.heap.size, 1, none⟩ = some (.int .i64 61) ∧ Below w1.heap.size w1 w' := fun w' hb' =>
    ⟨(hb'.cell (p := ⟨w.heap.size, 0, none⟩) (World.block_lt_of_cell? w1 _ f0)).trans f0, (hb'.cell (p := ⟨w.heap.size, 1, none⟩) (World.block_lt_of_cell? w1 _ f1)).trans f1, hb'⟩
  have C : ∀ wx (m : Int), Below w1.heap.size w1 wx → 0 ≤ m → m ≤ 64 → Calls Try.prog 113 #[.pointer (some ⟨b, 0, none⟩), V64 x, .int .i64 m] wx fun e w' => e = .returned (V64 (rot64 x m.toNat)) ∧ w'.cell? ⟨w.heap.size, 0, none⟩ = some (.int .i64 19) ∧ w'.cell? ⟨w.heap.size, 1, none⟩ = some (.int .i64 61) ∧ Below w1.heap.size w1 w' := fun wx m hb' hm hn =>
    (turn64_lit wx b x m.toNat m (by omega) (by omega) ((hb'.cell (p := ⟨b, 0, none⟩) (World.block_lt_of_cell? w1 _ hb1)).trans hb1)).mono fun e w' ⟨h1, k, h2⟩ => ⟨h1, S0 w' (by rw [h2]; exact below_drewN hb' k)⟩
  have HC := Lib.hid C
  have HS := Lib.hid S0
  clear C S0
  go_wp2_with fail
  go_region_held3 (fun w' => w'.cell? ⟨w.heap.size, 0, none⟩ = some (.int .i64 19) ∧ w'.cell? ⟨w.heap.size, 1, none⟩ = some (.int .i64 61) ∧ Below w1.heap.size w1 w') (first | exact HS.out _ (below_drewN (Below.refl _ _) 1) | assumption)
    (first | (go_at_call 113; refine (HC.out _ _ (And.right (And.right (by assumption))) (by decide) (by decide)).mono ?_; rintro e w' ⟨rfl, hs⟩))
  all_goals
    go_wp2
    go_ret
    refine ⟨?_, hB1.trans (hs.2.2.mono hB1.size)⟩
    unfold mx643
    rfl
end Go.Proofs.Ytkcmacglomdfcaa
