/-
  THE LAW TreeNone: a nil tree.
-/
import Derived.Test.YtkcmacglomdfcaaTrE
namespace Go.Proofs.Ytkcmacglomdfcaa
open Go.RowKit

set_option maxRecDepth 100000 in
set_option maxHeartbeats 4000000 in
theorem treeNone_law (w : World) (x : Dg) (hx : x.length = 32) (i : Int) (_ : (Lit.int .i64 i).wf = true) (n : Int) (_ : (Lit.int .i64 n).wf = true) :
    Calls Try.prog 20 #[.agg (x.map B8).toArray, .int .i64 i, .int .i64 n] w fun e w' => e = .returned (.bool true) ∧ Below w.heap.size w w' := by
  have hA := alive11_any dig
  have HA := Lib.hid hA
  have hAdd := fun u => add_nil u x
  have hFind := fun u => find_nil u x
  unfold SumV at hAdd hFind
  have HAdd := Lib.hid hAdd
  have HFind := Lib.hid hFind
  have HLeaf : Hid (∃ z : Dg, z.length = 32 ∧ ∀ u, Calls Try.prog 52 #[.pointer none, .int .i64 i] u fun e w' => e = .returned (.tuple #[.agg (z.map B8).toArray, errV 2]) ∧ Below u.heap.size u w') := Lib.hid ⟨zero32, rfl, fun u => leaf_nil u i⟩
  obtain ⟨z, hz, hLeaf⟩ := HLeaf.out
  have HLf := Lib.hid hLeaf
  have hiz' := info_of' z hz
  have hix := info_of x hx
  have HPath := Lib.hid (fun u => path_nil u i n)
  have HBeg := Lib.hid (fun u => begins_nil u i n)
  have HLen := Lib.hid len_nil
  have HLev := Lib.hid (fun u => level_nil u i)
  clear hA hAdd hFind HLeaf hLeaf
  go_enter Try.func20, Try.ntmps20
  go_wp2_with fail
  obtain ⟨W, hW⟩ : ∃ W, W = w.alloc (.cells (x.map B8).toArray 26) := ⟨_, rfl⟩
  have hW1 : Below w.heap.size w W ∧ W.rangeAt w.heap.size 0 (x.map B8) := by rw [hW]; exact ⟨(Below.refl _ _).alloc (Nat.le_refl _) _, rangeAt_at _ _ _ _ _ rfl⟩
  have H1 := Lib.hid hW1
  rw [← hW]
  clear hW hW1
  refine (HA.out W).mono ?_
  rintro e w2 ⟨rfl, hb2⟩
  have H2 := Lib.hid (And.intro (H1.out.1.trans (hb2.mono H1.out.1.size)) (rangeAt_below' H1.out.2 hb2))
  have hr2 := H2.out.2
  clear H1 hb2
  go_wp2_with ((with_reducible show wpList _ _ _ (⟨_, Op.load 26 (.tmp 3), _, _, _, _⟩ :: _) _ _); refine wpList_load_mid rfl _ _ rfl w.heap.size 0 rfl (x.map B8) _ hr2 Try.underlying26 rfl hix ?_; simp only [Act.put, List.setIfInBounds_toArray, List.set_cons_zero, List.set_cons_succ])
  refine (HAdd.out w2).mono ?_
  rintro e w3 ⟨rfl, hb3⟩
  have H3 := Lib.hid (And.intro (H2.out.1.trans (hb3.mono H2.out.1.size)) (rangeAt_below' H2.out.2 hb3))
  clear H2 hb3 hr2
  go_wp2_with fail
  refine (HLf.out w3).mono ?_
  rintro e w4 ⟨rfl, hb4⟩
  have H4 := Lib.hid (And.intro (H3.out.1.trans (hb4.mono H3.out.1.size)) (rangeAt_below' H3.out.2 hb4))
  clear H3 hb4
  have hlt4 : w.heap.size < w4.heap.size := World.block_lt_of_cell? w4 ⟨w.heap.size, 0, none⟩ (H4.out.2 0 _ (List.getElem?_eq_getElem (by rw [List.length_map, hx]; decide)))
  have hsz4 := H4.out.1.size
  go_wp2_with ((with_reducible show wpList _ _ _ (⟨_, Op.store 26 (.tmp 10) _, _, _, _, _⟩ :: _) _ _); refine wpList_store_row rfl _ _ _ rfl w4.heap.size 0 (z.map B8).toArray rfl rfl (sz_there hz (there_blk (heap_alloc_at _ _ _ rfl) (by decide))) hiz' (b8_all z) ?_; intro w5 hg5 hs5 ht5 hth5; have H5 := Lib.hid (And.intro ((H4.out.1.alloc hsz4 _).grown hg5 (by simp <;> omega) (by intro k hk; cases hk; omega)) (range_grown (rangeAt_below' H4.out.2 ((Below.refl _ _).alloc (Nat.le_refl _) _)) hg5 (by simp <;> omega))); clear hg5 hs5 ht5 hth5)
  refine (HPath.out w5).mono ?_
  rintro e w6 ⟨rfl, rfl⟩
  go_wp2_with fail
  refine (HBeg.out w5).mono ?_
  rintro e w7 ⟨rfl, rfl⟩
  have hr5 := H5.out.2
  go_wp2_with ((with_reducible show wpList _ _ _ (⟨_, Op.load 26 (.tmp 3), _, _, _, _⟩ :: _) _ _); refine wpList_load_mid rfl _ _ rfl w.heap.size 0 rfl (x.map B8) _ hr5 Try.underlying26 rfl hix ?_; simp only [Act.put, List.setIfInBounds_toArray, List.set_cons_zero, List.set_cons_succ])
  refine (HFind.out w5).mono ?_
  rintro e w8 ⟨rfl, hb8⟩
  have H8 := Lib.hid (H5.out.1.trans (hb8.mono H5.out.1.size))
  clear hb8 hr5 H5 H4
  go_wp2_with (first
    | (go_at_call 46; refine (is_err _ _ _ (by decide)).mono ?_; rintro e w9 ⟨rfl, rfl⟩)
    | (go_at_call 48; refine (HLen.out _).mono ?_; rintro e w9 ⟨rfl, rfl⟩)
    | (go_at_call 53; refine (HLev.out _).mono ?_; rintro e w9 ⟨rfl, rfl⟩))
  go_ret
  exact ⟨rfl, H8.out⟩
end Go.Proofs.Ytkcmacglomdfcaa
