/-
  THE DIGEST AS A LETTER: leaf.Leaf, leaf.Node, leaf.Empty, and the document's answers.
-/
import Derived.Test.YtkcmacglomdfcaaSrY
import Derived.Test.YtkcmacglomdfcaaSumZ
import Derived.Test.YtkcmacglomdfcaaOpenS
import Derived.Test.YtkcmacglomdfcaaPlain
import Derived.Deep.RegionHeld3
namespace Go.Proofs.Ytkcmacglomdfcaa
open Go.RowKit

/-- What is known of the short digest F. -/
structure Dig (F : List UInt8 → List UInt8) : Prop where
  len : ∀ t, (F t).length = 32
  short : ∀ (w : World) (v : Value) (ps : List (List UInt8)), SBs w v ps → ps.flatten.length ≤ 70368744177664 →
    Calls Try.prog 25 #[v] w fun e w' => e = .returned (.agg ((F ps.flatten).map B8).toArray) ∧ Below w.heap.size w w'
  ref : ∀ (w : World) (A : Option Addr) (n c : Nat) (text : List UInt8), RB w A n text → n ≤ 70368744177664 →
    Calls Try.prog 26 #[.slice A n c] w fun e w' => e = .returned (.agg ((F text).map B8).toArray) ∧ Below w.heap.size w w'
  ex : (F [0]).getD 0 0 = 110 ∧ (F [0]).getD 1 0 = 52
theorem leaf0 : (digest32 K32 H32 [0]).getD 0 0 = 110 ∧ (digest32 K32 H32 [0]).getD 1 0 = 52 := by decide +kernel
theorem dig : Dig (digest32 K32 H32) := ⟨digest32_len K32 H32, short_any, ref32_any, leaf0⟩

theorem info_sum : (Try.prog.info? 26).map (·.size) = some 32 := by kernel_rfl
theorem info_of (d : List UInt8) (hd : d.length = 32) : (Try.prog.info? 26).map (·.size) = some (d.map B8).length := by rw [List.length_map, hd]; exact info_sum
theorem info_of' (d : List UInt8) (hd : d.length = 32) : (Try.prog.info? 26).map (·.size) = some (d.map B8).toArray.size := by simpa using info_of d hd
theorem there32 {w : World} {g : Nat} {cs : Array Value} {t : TypeId} (h : w.heap[g]? = some (.cells cs t (0, 0))) (d : List UInt8) (hd : d.length = 32) (hc : cs.size = 32) : w.there g 0 (d.map B8).toArray.size :=
  there_blk h (by simp [hd, hc])
section
variable {w : World} {o1 o2 o3 : Obj} {w' : World}
theorem res1 (h : Below (w.alloc o1).heap.size (w.alloc o1) w') : w'.heap[w.heap.size]? = some o1 := heap_below (heap_alloc_new w o1) h
theorem res2 (h : Below ((w.alloc o1).alloc o2).heap.size ((w.alloc o1).alloc o2) w') : w'.heap[w.heap.size]? = some o1 := heap_below ((Below.heap_alloc _ _ _ (by simp)).trans (heap_alloc_new w o1)) h
theorem res3 (h : Below (((w.alloc o1).alloc o2).alloc o3).heap.size (((w.alloc o1).alloc o2).alloc o3) w') : w'.heap[w.heap.size]? = some o1 :=
  heap_below ((Below.heap_alloc _ _ _ (by simp <;> omega)).trans ((Below.heap_alloc _ _ _ (by simp)).trans (heap_alloc_new w o1))) h
theorem bel1 (h : Below (w.alloc o1).heap.size (w.alloc o1) w') : Below w.heap.size w w' := ((Below.refl _ _).alloc (Nat.le_refl _) _).trans (h.mono (by simp))
theorem bel2 (h : Below ((w.alloc o1).alloc o2).heap.size ((w.alloc o1).alloc o2) w') : Below w.heap.size w w' := (((Below.refl _ _).alloc (Nat.le_refl _) _).alloc (by simp) _).trans (h.mono (by simp <;> omega))
theorem bel3 (h : Below (((w.alloc o1).alloc o2).alloc o3).heap.size (((w.alloc o1).alloc o2).alloc o3) w') : Below w.heap.size w w' :=
  ((((Below.refl _ _).alloc (Nat.le_refl _) _).alloc (by simp) _).alloc (by simp <;> omega) _).trans (h.mono (by simp <;> omega))
end
section
variable {F : List UInt8 → List UInt8} (HF : Dig F)
include HF

theorem leaf_any (w : World) (A : Option Addr) (n c : Nat) (b : List UInt8) (hr : RB w A n b) (hc : n ≤ c) (hm : c ≤ maxLen) (hn : n ≤ 1000000) :
    Calls Try.prog 31 #[.slice A n c] w fun e w' => e = .returned (SumV (F (0 :: b))) ∧ Below w.heap.size w w' := by
  have hlen := hr.len
  have Hlen := Lib.hid hlen
  have hD := HF.len (0 :: b)
  have hfl : [[0], b].flatten = 0 :: b := by simp
  have hfl2 : [[0], b].flatten.length ≤ 70368744177664 := by rw [hfl, List.length_cons, hlen]; omega
  have hS := fun w v h => HF.short w v [[0], b] h hfl2
  rw [hfl] at hS
  generalize F (0 :: b) = D at hS hD ⊢
  clear hlen hfl hfl2
  go_enter Try.func31, Try.ntmps31
  go_wp2_with fail
  refine (hS _ _ (SBs.two (SB.of_rangeAt (b := w.heap.size + 1) (o := 0) (n := 1) (c := 1) ?_ rfl (by decide) (by decide)) ⟨A, n, c, rfl, hc, hm, hr.below ?_⟩ (RV.of_rangeAt ?_ rfl))).mono ?_
  · exact World.rangeAt_alloc (rangeAt_at _ _ _ _ _ (by simp)) _
  · exact (((Below.refl _ _).alloc (Nat.le_refl _) _).alloc (by simp) _).alloc (by simp <;> omega) _
  · exact rangeAt_at _ _ _ _ _ (by simp)
  rintro e w1 ⟨rfl, hb⟩
  have hres := res3 hb
  have hb1 := bel3 hb
  have hlt : w.heap.size < w1.heap.size := (Array.getElem?_eq_some_iff.1 hres).1
  have hth := there32 hres D hD rfl
  have hi := info_of' D hD
  have hi2 := info_of D hD
  have HB := Lib.hid hb1
  have Hlt := Lib.hid hlt
  clear hb hb1 hlt hS hres hD
  go_wp2_with ((with_reducible show wpList _ _ _ (⟨_, Op.store 26 _ _, _, _, _, _⟩ :: _) _ _); refine wpList_store_row rfl _ _ _ rfl w.heap.size 0 (D.map B8).toArray rfl rfl hth hi (b8_all D) ?_; intro w8 hg8 hs8 ht8 hth8)
  refine bodyPost_ret (v := SumV D) ?_ rfl ⟨rfl, ?_⟩
  · exact results_cell (s := 2) rfl _ _ _ w.heap.size 0 rfl (D.map B8) _ (by simpa using ht8) Try.underlying26 rfl hi2
  · exact HB.out.grown hg8 (Nat.le_of_lt Hlt.out) (by intro k hk; cases hk; exact Nat.le_refl _)
theorem empty_any (w : World) : Calls Try.prog 35 #[] w fun e w' => e = .returned (SumV (F [])) ∧ Below w.heap.size w w' := by
  have hD := HF.len []
  have hS := fun w => HF.short w _ _ (sbs_nil w) (by simp)
  simp only [List.flatten_nil] at hS
  generalize F [] = D at hS hD ⊢
  go_enter Try.func35, Try.ntmps35
  go_wp2_with fail
  refine (hS _).mono ?_
  rintro e w1 ⟨rfl, hb⟩
  have hres := res1 hb
  have hb1 := bel1 hb
  have hlt : w.heap.size < w1.heap.size := (Array.getElem?_eq_some_iff.1 hres).1
  have hth := there32 hres D hD rfl
  have hi := info_of' D hD
  have hi2 := info_of D hD
  have HB := Lib.hid hb1
  have Hlt := Lib.hid hlt
  clear hb hb1 hlt hS hres hD
  go_wp2_with ((with_reducible show wpList _ _ _ (⟨_, Op.store 26 _ _, _, _, _, _⟩ :: _) _ _); refine wpList_store_row rfl _ _ _ rfl w.heap.size 0 (D.map B8).toArray rfl rfl hth hi (b8_all D) ?_; intro w8 hg8 hs8 ht8 hth8)
  refine bodyPost_ret (v := SumV D) ?_ rfl ⟨rfl, ?_⟩
  · exact results_cell (s := 0) rfl _ _ _ w.heap.size 0 rfl (D.map B8) _ (by simpa using ht8) Try.underlying26 rfl hi2
  · exact HB.out.grown hg8 (Nat.le_of_lt Hlt.out) (by intro k hk; cases hk; exact Nat.le_refl _)
end
/-- In Node: the two digests in their boxes. -/
structure NodeS (w : World) (l r : List UInt8) (u : World) : Prop where
  below : Below w.heap.size w u
  sz : w.heap.size + 3 ≤ u.heap.size
  lb : u.rangeAt w.heap.size 0 (l.map B8)
  rb : u.rangeAt (w.heap.size + 1) 0 (r.map B8)
theorem NodeS.stable {w u u' : World} {l r : List UInt8} (h : NodeS w l r u) (hb : Below u.heap.size u u') : NodeS w l r u' :=
  ⟨h.below.trans (hb.mono h.below.size), Nat.le_trans h.sz hb.size, rangeAt_below' h.lb hb, rangeAt_below' h.rb hb⟩
theorem NodeS.stored {w u : World} {l r : List UInt8} (h : NodeS w l r u) (o : Nat) (vs : List Value) : NodeS w l r (u.setCells (w.heap.size + 2) o vs) :=
  ⟨below_setCells (by omega) _ _ _ h.below, by rw [heapSize_setCells]; exact h.sz, World.rangeAt_setCells_apart h.lb _ _ _ (.inl (by omega)), World.rangeAt_setCells_apart h.rb _ _ _ (.inl (by omega))⟩
end Go.Proofs.Ytkcmacglomdfcaa
