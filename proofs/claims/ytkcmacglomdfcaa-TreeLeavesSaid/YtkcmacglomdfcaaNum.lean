/-
  THE WALKS of cachetnum: Copy, Kept, Same.
-/
import Derived.Test.YtkcmacglomdfcaaProg
import Derived.Test.YtkcmacglomdfcaaBase
namespace Go.Proofs.Ytkcmacglomdfcaa
open Go.RowKit

theorem info_u8 : (Try.prog.info? 5).map (fun i => (i.zero, i.size, i.bytes)) = some (some (.int .u8 0), 1, 1) := by kernel_rfl

theorem copyA (z : Value) (n : Nat) (vs : List Value) (_h : vs.length = n) :
    (List.take (0 * 1) (madeCells #[z] (n + 2)).toList ++ vs ++ List.drop ((0 + n) * 1) (madeCells #[z] (n + 2)).toList).toArray = (vs ++ [z, z]).toArray := by
  rw [toList_madeCells_one, List.drop_replicate, show n + 2 - (0 + n) * 1 = 2 from by omega]
  simp
theorem copyB (z a b : Value) (n : Nat) (vs : List Value) (h : vs.length = n) :
    (List.take (n * 1) (vs ++ [z, z]) ++ [a, b] ++ List.drop ((n + 2) * 1) (vs ++ [z, z])).toArray = (vs ++ [a, b]).toArray := by
  subst h
  simp
/-- A new row of the call's own. -/
def OwnPost (w : World) (bs : List UInt8) (e : Ending) (w' : World) : Prop := ∃ v, e = .returned v ∧ w'.ownsRow w.heap.size 5 1 v bs.length (bs.map B8) ∧ Below w.heap.size w w'
/-- What Copy leaves: a block of its own that holds the bytes and two marks. -/
def CopyPost (w : World) (n : Nat) (bs : List UInt8) (e : Ending) (w' : World) : Prop :=
  ∃ g, e = .returned (.slice (some ⟨g, 0, none⟩) n (n + 2)) ∧ w.heap.size ≤ g ∧ Hid (w'.heap[g]? = some (.cells (bs.map B8 ++ [B8 165, B8 90]).toArray 5 (0, 0))) ∧ Below w.heap.size w w'

theorem copy_any (w : World) (A : Option Addr) (n c : Nat) (bs : List UInt8) (hr : RB w A n bs) (hn : n ≤ 140737488351232) :
    Calls Try.prog 24 #[.slice A n c] w (CopyPost w n bs) := by
  obtain ⟨i, hi, hz, hsz, hby⟩ := info_parts info_u8
  have hmk : ∀ w : World, (Instr.makeSlice 22 (.int .i64 0) (.int .i64 ((n : Int) + 2))).run Try.prog w = .ok (.slice (some ⟨w.heap.size, 0, none⟩) 0 (n + 2)) (w.alloc (.cells (madeCells #[.int .u8 0] (n + 2)) 5)) := by
    intro w
    have h := run_make (P := Try.prog) w 22 5 i (.int .u8 0) Try.underlying22 hi hz .i64 .i64 0 ((n : Int) + 2) (by omega) (by omega) (by rw [hby]; omega) (by omega)
    rw [hsz, show ((n : Int) + 2).toNat = n + 2 from by omega, Nat.mul_one] at h
    exact h
  go_enter Try.func24, Try.ntmps24
  have hl : (bs.map B8).length = n := by rw [List.length_map, hr.len]
  have Hl := Lib.hid hl
  clear hl
  go_wp2_with (first
    | (at_builtin; refine wpList_append_in _ rfl (.tmp 6) (.tmp 7) 22 rfl 5 i 1 Try.underlying22 hi hsz w.heap.size 0 (n + 2) _ rfl (heap_alloc_new w _) A n c (bs.map B8) rfl ((hr.below ((Below.refl _ _).alloc (Nat.le_refl _) _)).rc) (by rw [Hl.out]; omega) (by intro e; subst e; exact hr.zero_of_none) (b8_oneCell bs) (by omega) (by rw [size_madeCells]; omega) ?_; intro w2 hc2 hg2 hs2; rw [copyA _ n _ Hl.out] at hc2; rw [Nat.zero_add])
    | (at_builtin; refine wpList_append_in _ rfl (.tmp 8) (.tmp 9) 22 rfl 5 i 1 Try.underlying22 hi hsz w.heap.size n (n + 2) (bs.map B8 ++ [Value.int .u8 0, Value.int .u8 0]).toArray rfl ((Below.heap_alloc w2 _ _ (by rw [hs2.out]; simp)).trans hc2.out) (some ⟨w2.heap.size, 0, none⟩) 2 2 [B8 165, B8 90] rfl (rc_new _ _ _ _) rfl (by intro e; cases e) (by decide) (by omega) (by simp [Hl.out]) ?_; intro w3 hc3 hg3 hs3; rw [copyB _ _ _ n _ Hl.out] at hc3))
  have hb2 : Below w.heap.size w w2 := ((Below.refl _ _).alloc (Nat.le_refl _) _).grown hg2 (by simp) (by intro k hk; cases hk; exact Nat.le_refl _)
  have hb3 : Below w.heap.size w w3 := (hb2.alloc hb2.size _).grown hg3 (by have := hb2.size; simp; omega) (by intro k hk; cases hk; exact Nat.le_refl _)
  go_ret
  exact ⟨_, rfl, Nat.le_refl _, hc3, hb3⟩

theorem copyPost_sb {w : World} {n g : Nat} {bs : List UInt8} (h : w.heap[g]? = some (.cells (bs.map B8 ++ [B8 165, B8 90]).toArray 5 (0, 0))) (hn : bs.length = n) (hm : n ≤ 140737488351232) :
    SB w (.slice (some ⟨g, 0, none⟩) n (n + 2)) bs := SB.of_rangeAt (rangeAt_left (rangeAt_blk h)) hn (by omega) (by unfold maxLen; omega)
/-- Kept, where the copy is as Copy left it and the bytes are as they were. -/
theorem kept_true (w : World) (g : Nat) (A : Option Addr) (n c : Nat) (bs : List UInt8) (hg : w.heap[g]? = some (.cells (bs.map B8 ++ [B8 165, B8 90]).toArray 5 (0, 0))) (hr : RB w A n bs) (hn : n ≤ 140737488351232) :
    Calls Try.prog 27 #[.slice (some ⟨g, 0, none⟩) n (n + 2), .slice A n c] w fun e w' => e = .returned (.bool true) ∧ w = w' := by
  have hl : (bs.map B8).length = n := by rw [List.length_map, hr.len]
  have hra := rangeAt_blk hg
  have hm : RB w (some ⟨g, 0, none⟩) n bs := RV.of_rangeAt (rangeAt_left hra) hl
  have k1 := run_string_of (P := Try.prog) w 22 9 5 Try.underlying22 Try.underlying5 Try.underlying9 _ n (n + 2) bs hm
  have k2 := run_string_of (P := Try.prog) w 22 9 5 Try.underlying22 Try.underlying5 Try.underlying9 _ n c bs hr
  have hrr := rangeAt_right hra
  rw [hl, Nat.zero_add] at hrr
  have c1 : w.cell? ⟨g, n, none⟩ = some (.int .u8 165) := hrr 0 _ rfl
  have c2 : w.cell? ⟨g, n + 1, none⟩ = some (.int .u8 90) := hrr 1 _ rfl
  clear hl hra hm hrr hg hr
  go_enter Try.func27, Try.ntmps27
  go_wp2
  go_ret
  exact ⟨rfl, rfl⟩
end Go.Proofs.Ytkcmacglomdfcaa
