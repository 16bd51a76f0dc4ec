/-
  THE WALKS of turn and mix: words turned, and put together (words of 32 bits).
-/
import Derived.Test.YtkcmacglomdfcaaSmA32
import Derived.Deep.QuietTactic
import Derived.BigQuiet
import Derived.WalkSmall
import Derived.Deep.RegionHeld3
namespace Go.Proofs.Ytkcmacglomdfcaa
open Go.RowKit

def rot32 (x : BitVec 32) (n : Nat) : BitVec 32 := x >>> n ||| x <<< (32 - n)

theorem turn32_any (w : World) (b : Nat) (x : BitVec 32) (n : Nat) (hn : n ≤ 32) (hb : w.cell? ⟨b, 0, none⟩ = some (.int .i64 32)) :
    Calls Try.prog 112 #[.pointer (some ⟨b, 0, none⟩), V32 x, .int .i64 (n : Int)] w fun e w' => e = .returned (V32 (rot32 x n)) ∧ ∃ m, w' = w.drewN m := by
  have h1 := fun t k => binOp_shr32 t k x n (n : Int) rfl hn
  have h2 := fun t k => binOp_shl32 t k x (32 - n) (32 - (n : Int)) (by omega) (by omega)
  go_enter Try.func112, Try.ntmps112
  go_wp2_with fail
  go_quiet (fail)
  go_wp2
  go_ret
  exact ⟨rfl, _, rfl⟩
theorem turn32_lit (w : World) (b : Nat) (x : BitVec 32) (n : Nat) (m : Int) (hm : m = (n : Int)) (hn : n ≤ 32) (hb : w.cell? ⟨b, 0, none⟩ = some (.int .i64 32)) :
    Calls Try.prog 112 #[.pointer (some ⟨b, 0, none⟩), V32 x, .int .i64 m] w fun e w' => e = .returned (V32 (rot32 x n)) ∧ ∃ m, w' = w.drewN m := by
  subst hm
  exact turn32_any w b x n hn hb
def mx320 (x : BitVec 32) : BitVec 32 := rot32 x 2 ^^^ rot32 x 13 ^^^ rot32 x 22
theorem mix32_0 (w : World) (b : Nat) (x : BitVec 32) (hb : w.cell? ⟨b, 0, none⟩ = some (.int .i64 32)) (k0 : w.cell? ⟨b, 10, none⟩ = some (.int .i64 2)) (k1 : w.cell? ⟨b, 11, none⟩ = some (.int .i64 13)) (k2 : w.cell? ⟨b, 12, none⟩ = some (.int .i64 22)) :
    Calls Try.prog 109 #[.pointer (some ⟨b, 0, none⟩), V32 x, .int .i64 0] w fun e w' => e = .returned (V32 (mx320 x)) ∧ Below w.heap.size w w' := by
  have hlt : b < w.heap.size := World.block_lt_of_cell? w ⟨b, 0, none⟩ hb
  have hsh := fun t k => binOp_shr32 t k x 22 22 rfl (by decide)
  go_enter Try.func109, Try.ntmps109
  go_wp2_with fail
  refine (turn32_lit _ b x 22 22 rfl (by decide) ((World.cell?_alloc_past _ b 0 hlt).trans hb)).mono ?_
  rintro e w1 ⟨rfl, m1, hw1⟩
  have hB1 : Below w.heap.size w w1 := by rw [hw1]; exact below_drewN ((Below.refl w.heap.size w).alloc (Nat.le_refl _) _) m1
  have hb1 : w1.cell? ⟨b, 0, none⟩ = some (.int .i64 32) := (hB1.cell (p := ⟨b, 0, none⟩) hlt).trans hb
  have f : ∀ i v, (#[Value.int .i64 2, .int .i64 13, .int .i64 22])[i]? = some v → w1.cell? ⟨w.heap.size, i, none⟩ = some v := by
    intro i v hv
    rw [hw1]
    exact (World.cell?_alloc_at _ _ _ _ rfl).trans hv
  have f0 := f 0 _ rfl
  have f1 := f 1 _ rfl
  have f2 := f 2 _ rfl
  clear f hw1
  have S0 : ∀ w', Below w1.heap.size w1 w' → w'.cell? ⟨w.heap.size, 0, none⟩ = some (.int .i64 2) ∧ w'.cell? ⟨w.heap.size, 1, none⟩ = some (.int .i64 13) ∧ Below w1.heap.size w1 w' := fun w' hb' =>
    ⟨(hb'.cell (p := ⟨w.heap.size, 0, none⟩) (World.block_lt_of_cell? w1 _ f0)).trans f0, (hb'.cell (p := ⟨w.heap.size, 1, none⟩) (World.block_lt_of_cell? w1 _ f1)).trans f1, hb'⟩
  have C : ∀ wx (m : Int), Below w1.heap.size w1 wx → 0 ≤ m → m ≤ 32 → Calls Try.prog 112 #[.pointer (some ⟨b, 0, none⟩), V32 x, .int .i64 m] wx fun e w' => e = .returned (V32 (rot32 x m.toNat)) ∧ w'.cell? ⟨w.heap.size, 0, none⟩ = some (.int .i64 2) ∧ w'.cell? ⟨w.heap.size, 1, none⟩ = some (.int .i64 13) ∧ Below w1.heap.size w1 w' := fun wx m hb' hm hn =>
    (turn32_lit wx b x m.toNat m (by omega) (by omega) ((hb'.cell (p := ⟨b, 0, none⟩) (World.block_lt_of_cell? w1 _ hb1)).trans hb1)).mono fun e w' ⟨h1, k, h2⟩ => ⟨h1, S0 w' (by rw [h2]; exact below_drewN hb' k)⟩
  have HC := Lib.hid C
  have HS := Lib.hid S0
  clear C S0
  go_wp2_with fail
  go_region_held3 (fun w' => w'.cell? ⟨w.heap.size, 0, none⟩ = some (.int .i64 2) ∧ w'.cell? ⟨w.heap.size, 1, none⟩ = some (.int .i64 13) ∧ Below w1.heap.size w1 w') (first | exact HS.out _ (below_drewN (Below.refl _ _) 1) | assumption)
    (first | (go_at_call 112; refine (HC.out _ _ (And.right (And.right (by assumption))) (by decide) (by decide)).mono ?_; rintro e w' ⟨rfl, hs⟩))
  all_goals
    go_wp2
    go_ret
    refine ⟨?_, hB1.trans (hs.2.2.mono hB1.size)⟩
    unfold mx320
    rfl
def mx321 (x : BitVec 32) : BitVec 32 := rot32 x 6 ^^^ rot32 x 11 ^^^ rot32 x 25
theorem mix32_1 (w : World) (b : Nat) (x : BitVec 32) (hb : w.cell? ⟨b, 0, none⟩ = some (.int .i64 32)) (k0 : w.cell? ⟨b, 13, none⟩ = some (.int .i64 6)) (k1 : w.cell? ⟨b, 14, none⟩ = some (.int .i64 11)) (k2 : w.cell? ⟨b, 15, none⟩ = some (.int .i64 25)) :
    Calls Try.prog 109 #[.pointer (some ⟨b, 0, none⟩), V32 x, .int .i64 1] w fun e w' => e = .returned (V32 (mx321 x)) ∧ Below w.heap.size w w' := by
  have hlt : b < w.heap.size := World.block_lt_of_cell? w ⟨b, 0, none⟩ hb
  have hsh := fun t k => binOp_shr32 t k x 25 25 rfl (by decide)
  go_enter Try.func109, Try.ntmps109
  go_wp2_with fail
  refine (turn32_lit _ b x 25 25 rfl (by decide) ((World.cell?_alloc_past _ b 0 hlt).trans hb)).mono ?_
  rintro e w1 ⟨rfl, m1, hw1⟩
  have hB1 : Below w.heap.size w w1 := by rw [hw1]; exact below_drewN ((Below.refl w.heap.size w).alloc (Nat.le_refl _) _) m1
  have hb1 : w1.cell? ⟨b, 0, none⟩ = some (.int .i64 32) := (hB1.cell (p := ⟨b, 0, none⟩) hlt).trans hb
  have f : ∀ i v, (#[Value.int .i64 6, .int .i64 11, .int .i64 25])[i]? = some v → w1.cell? ⟨w.heap.size, i, none⟩ = some v := by
    intro i v hv
    rw [hw1]
    exact (World.cell?_alloc_at _ _ _ _ rfl).trans hv
  have f0 := f 0 _ rfl
  have f1 := f 1 _ rfl
  have f2 := f 2 _ rfl
  clear f hw1
  have S0 : ∀ w', Below w1.heap.size w1 w' → w'.cell? ⟨w.heap.size, 0, none⟩ = some (.int .i64 6) ∧ w'.cell? ⟨w.heap.size, 1, none⟩ = some (.int .i64 11) ∧ Below w1.heap.size w1 w' := fun w' hb' =>
    ⟨(hb'.cell (p := ⟨w.heap.size, 0, none⟩) (World.block_lt_of_cell? w1 _ f0)).trans f0, (hb'.cell (p := ⟨w.heap.size, 1, none⟩) (World.block_lt_of_cell? w1 _ f1)).trans f1, hb'⟩
  have C : ∀ wx (m : Int), Below w1.heap.size w1 wx → 0 ≤ m → m ≤ 32 → Calls Try.prog 112 #[.pointer (some ⟨b, 0, none⟩), V32 x, .int .i64 m] wx fun e w' => e = .returned (V32 (rot32 x m.toNat)) ∧ w'.cell? ⟨w.heap.size, 0, none⟩ = some (.int .i64 6) ∧ w'.cell? ⟨w.heap.size, 1, none⟩ = some (.int .i64 11) ∧ Below w1.heap.size w1 w' := fun wx m hb' hm hn =>
    (turn32_lit wx b x m.toNat m (by omega) (by omega) ((hb'.cell (p := ⟨b, 0, none⟩) (World.block_lt_of_cell? w1 _ hb1)).trans hb1)).mono fun e w' ⟨h1, k, h2⟩ => ⟨h1, S0 w' (by rw [h2]; exact below_drewN hb' k)⟩
  have HC := Lib.hid C
  have HS := Lib.hid S0
  clear C S0
  go_wp2_with fail
  go_region_held3 (fun w' => w'.cell? ⟨w.heap.size, 0, none⟩ = some (.int .i64 6) ∧ w'.cell? ⟨w.heap.size, 1, none⟩ = some (.int .i64 11) ∧ Below w1.heap.size w1 w') (first | exact HS.out _ (below_drewN (Below.refl _ _) 1) | assumption)
    (first | (go_at_call 112; refine (HC.out _ _ (And.right (And.right (by assumption))) (by decide) (by decide)).mono ?_; rintro e w' ⟨rfl, hs⟩))
  all_goals
    go_wp2
    go_ret
    refine ⟨?_, hB1.trans (hs.2.2.mono hB1.size)⟩
    unfold mx321
    rfl
def mx322 (x : BitVec 32) : BitVec 32 := rot32 x 7 ^^^ rot32 x 18 ^^^ x >>> 3
theorem mix32_2 (w : World) (b : Nat) (x : BitVec 32) (hb : w.cell? ⟨b, 0, none⟩ = some (.int .i64 32)) (k0 : w.cell? ⟨b, 16, none⟩ = some (.int .i64 7)) (k1 : w.cell? ⟨b, 17, none⟩ = some (.int .i64 18)) (k2 : w.cell? ⟨b, 18, none⟩ = some (.int .i64 3)) :
    Calls Try.prog 109 #[.pointer (some ⟨b, 0, none⟩), V32 x, .int .i64 2] w fun e w' => e = .returned (V32 (mx322 x)) ∧ Below w.heap.size w w' := by
  have hlt : b < w.heap.size := World.block_lt_of_cell? w ⟨b, 0, none⟩ hb
  have hsh := fun t k => binOp_shr32 t k x 3 3 rfl (by decide)
  go_enter Try.func109, Try.ntmps109
  go_wp2_with fail
  refine (turn32_lit _ b x 3 3 rfl (by decide) ((World.cell?_alloc_past _ b 0 hlt).trans hb)).mono ?_
  rintro e w1 ⟨rfl, m1, hw1⟩
  have hB1 : Below w.heap.size w w1 := by rw [hw1]; exact below_drewN ((Below.refl w.heap.size w).alloc (Nat.le_refl _) _) m1
  have hb1 : w1.cell? ⟨b, 0, none⟩ = some (.int .i64 32) := (hB1.cell (p := ⟨b, 0, none⟩) hlt).trans hb
  have f : ∀ i v, (#[Value.int .i64 7, .int .i64 18, .int .i64 3])[i]? = some v → w1.cell? ⟨w.heap.size, i, none⟩ = some v := by
    intro i v hv
    rw [hw1]
    exact (World.cell?_alloc_at _ _ _ _ rfl).trans hv
  have f0 := f 0 _ rfl
  have f1 := f 1 _ rfl
  have f2 := f 2 _ rfl
  clear f hw1
  have S0 : ∀ w', Below w1.heap.size w1 w' → w'.cell? ⟨w.heap.size, 0, none⟩ = some (.int .i64 7) ∧ w'.cell? ⟨w.heap.size, 1, none⟩ = some (.int .i64 18) ∧ Below w1.heap.size w1 w' := fun w' hb' =>
    ⟨(hb'.cell (p := ⟨w.heap.size, 0, none⟩) (World.block_lt_of_cell? w1 _ f0)).trans f0, (hb'.cell (p := ⟨w.heap.size, 1, none⟩) (World.block_lt_of_cell? w1 _ f1)).trans f1, hb'⟩
  have C : ∀ wx (m : Int), Below w1.heap.size w1 wx → 0 ≤ m → m ≤ 32 → Calls Try.prog 112 #[.pointer (some ⟨b, 0, none⟩), V32 x, .int .i64 m] wx fun e w' => e = .returned (V32 (rot32 x m.toNat)) ∧ w'.cell? ⟨w.heap.size, 0, none⟩ = some (.int .i64 7) ∧ w'.cell? ⟨w.heap.size, 1, none⟩ = some (.int .i64 18) ∧ Below w1.heap.size w1 w' := fun wx m hb' hm hn =>
    (turn32_lit wx b x m.toNat m (by omega) (by omega) ((hb'.cell (p := ⟨b, 0, none⟩) (World.block_lt_of_cell? w1 _ hb1)).trans hb1)).mono fun e w' ⟨h1, k, h2⟩ => ⟨h1, S0 w' (by rw [h2]; exact below_drewN hb' k)⟩
  have HC := Lib.hid C
  have HS := Lib.hid S0
  clear C S0
  go_wp2_with fail
  go_region_held3 (fun w' => w'.cell? ⟨w.heap.size, 0, none⟩ = some (.int .i64 7) ∧ w'.cell? ⟨w.heap.size, 1, none⟩ = some (.int .i64 18) ∧ Below w1.heap.size w1 w') (first | exact HS.out _ (below_drewN (Below.refl _ _) 1) | assumption)
    (first | (go_at_call 112; refine (HC.out _ _ (And.right (And.right (by assumption))) (by decide) (by decide)).mono ?_; rintro e w' ⟨rfl, hs⟩))
  all_goals
    go_wp2
    go_ret
    refine ⟨?_, hB1.trans (hs.2.2.mono hB1.size)⟩
    unfold mx322
    rfl
def mx323 (x : BitVec 32) : BitVec 32 := rot32 x 17 ^^^ rot32 x 19 ^^^ x >>> 10
theorem mix32_3 (w : World) (b : Nat) (x : BitVec 32) (hb : w.cell? ⟨b, 0, none⟩ = some (.int .i64 32)) (k0 : w.cell? ⟨b, 19, none⟩ = some (.int .i64 17)) (k1 : w.cell? ⟨b, 20, none⟩ = some (.int .i64 19)) (k2 : w.cell? ⟨b, 21, none⟩ = some (.int .i64 10)) :
    Calls Try.prog 109 #[.pointer (some ⟨b, 0, none⟩), V32 x, .int .i64 3] w fun e w' => e = .returned (V32 (mx323 x)) ∧ Below w.heap.size w w' := by
  have hlt : b < w.heap.size := World.block_lt_of_cell? w ⟨b, 0, none⟩ hb
  have hsh := fun t k => binOp_shr32 t k x 10 10 rfl (by decide)
  go_enter Try.func109, Try.ntmps109
  go_wp2_with fail
  refine (turn32_lit _ b x 10 10 rfl (by decide) ((World.cell?_alloc_past _ b 0 hlt).trans hb)).mono ?_
  rintro e w1 ⟨rfl, m1, hw1⟩
  have hB1 : Below w.heap.size w w1 := by rw [hw1]; exact below_drewN ((Below.refl w.heap.size w).alloc (Nat.le_refl _) _) m1
  have hb1 : w1.cell? ⟨b, 0, none⟩ = some (.int .i64 32) := (hB1.cell (p := ⟨b, 0, none⟩) hlt).trans hb
  have f : ∀ i v, (#[Value.int .i64 17, .int .i64 19, .int .i64 10])[i]? = some v → w1.cell? ⟨w.heap.size, i, none⟩ = some v := by
    intro i v hv
    rw [hw1]
    exact (World.cell?_alloc_at _ _ _ _ rfl).trans hv
  have f0 := f 0 _ rfl
  have f1 := f 1 _ rfl
  have f2 := f 2 _ rfl
  clear f hw1
  have S0 : ∀ w', Below w1.heap.size w1 w' → w'.cell? ⟨w.heap.size, 0, none⟩ = some (.int .i64 17) ∧ w'.cell? ⟨w.heap.size, 1, none⟩ = some (.int .i64 19) ∧ Below w1.heap.size w1 w' := fun w' hb' =>
    ⟨(hb'.cell (p := ⟨w.heap.size, 0, none⟩) (World.block_lt_of_cell? w1 _ f0)).trans f0, (hb'.cell (p := ⟨w.heap.size, 1, none⟩) (World.block_lt_of_cell? w1 _ f1)).trans f1, hb'⟩
  have C : ∀ wx (m : Int), Below w1.heap.size w1 wx → 0 ≤ m → m ≤ 32 → Calls Try.prog 112 #[.pointer (some ⟨b, 0, none⟩), V32 x, .int .i64 m] wx fun e w' => e = .returned (V32 (rot32 x m.toNat)) ∧ w'.cell? ⟨w.heap.size, 0, none⟩ = some (.int .i64 17) ∧ w'.cell? ⟨w.heap.size, 1, none⟩ = some (.int .i64 19) ∧ Below w1.heap.size w1 w' := fun wx m hb' hm hn =>
    (turn32_lit wx b x m.toNat m (by omega) (by omega) ((hb'.cell (p := ⟨b, 0, none⟩) (World.block_lt_of_cell? w1 _ hb1)).trans hb1)).mono fun e w' ⟨h1, k, h2⟩ => ⟨h1, S0 w' (by rw [h2]; exact below_drewN hb' k)⟩
  have HC := Lib.hid C
  have HS := Lib.hid S0
  clear C S0
  go_wp2_with fail
  go_region_held3 (fun w' => w'.cell? ⟨w.heap.size, 0, none⟩ = some (.int .i64 17) ∧ w'.cell? ⟨w.heap.size, 1, none⟩ = some (.int .i64 19) ∧ Below w1.heap.size w1 w') (first | exact HS.out _ (below_drewN (Below.refl _ _) 1) | assumption)
    (first | (go_at_call 112; refine (HC.out _ _ (And.right (And.right (by assumption))) (by decide) (by decide)).mono ?_; rintro e w' ⟨rfl, hs⟩))
  all_goals
    go_wp2
    go_ret
    refine ⟨?_, hB1.trans (hs.2.2.mono hB1.size)⟩
    unfold mx323
    rfl
end Go.Proofs.Ytkcmacglomdfcaa
