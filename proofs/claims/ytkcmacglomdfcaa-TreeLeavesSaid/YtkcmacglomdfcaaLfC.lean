/-
  THE WALKS of leaf.Node, and of the document's Leaf, Text and Node.
-/
import Derived.Test.YtkcmacglomdfcaaLfA
namespace Go.Proofs.Ytkcmacglomdfcaa
open Go.RowKit

/-- A row of one cell, made by the call. -/
theorem own_one {u : World} {B : Nat} (hB : B ≤ u.heap.size) (x : Value) (e : TypeId) (p : Nat) (hp : u.heap.size = p) : (u.alloc (.cells #[x] e)).ownsRow B e 1 (.slice (some ⟨p, 0, none⟩) 1 1) 1 [x] := by
  subst hp
  exact ⟨rfl, .inr ⟨u.heap.size, 1, #[x], rfl, hB, heap_alloc_new _ _, Nat.le_refl _, by unfold maxLen; omega, rfl, rfl⟩⟩
section
variable {F : List UInt8 → List UInt8} (HF : Dig F)
include HF
theorem node_call (w u : World) (l r : List UInt8) (hl : l.length = 32) (hr : r.length = 32) (hth : u.there (w.heap.size + 2) 0 32) (hu : NodeS w l r u) (p q : Nat) (hp : u.heap.size = p) (hq : u.heap.size + 1 = q) :
    Calls Try.prog 25 #[.slice (some ⟨q, 0, none⟩) 3 3] ((u.alloc (.cells #[.int .u8 1] 5)).alloc (.cells #[.slice (some ⟨p, 0, none⟩) 1 1, .slice (some ⟨w.heap.size, 0, none⟩) 32 32, .slice (some ⟨w.heap.size + 1, 0, none⟩) 32 32] 22)).drew
      fun e w' => e = .returned (.agg ((nodeF F l r).map B8).toArray) ∧ w'.there (w.heap.size + 2) 0 32 ∧ NodeS w l r w' := by
  subst hp
  subst hq
  have hb0 : Below u.heap.size u ((u.alloc (.cells #[.int .u8 1] 5)).alloc (.cells #[.slice (some ⟨u.heap.size, 0, none⟩) 1 1, .slice (some ⟨w.heap.size, 0, none⟩) 32 32, .slice (some ⟨w.heap.size + 1, 0, none⟩) 32 32] 22)).drew :=
    below_drewN (((Below.refl _ _).alloc (Nat.le_refl _) _).alloc (by simp) _) 1
  have h0 := hu.stable hb0
  have hfl : [[1], l, r].flatten = 1 :: (l ++ r) := by simp
  refine (HF.short _ _ [[1], l, r] (SBs.three (SB.of_rangeAt (b := u.heap.size) (o := 0) (n := 1) (c := 1) ?_ rfl (by decide) (by decide)) (SB.of_rangeAt h0.lb hl (Nat.le_refl _) (by decide)) (SB.of_rangeAt h0.rb hr (Nat.le_refl _) (by decide)) (RV.of_rangeAt ?_ rfl)) (by rw [hfl]; simp [hl, hr])).mono ?_
  · rw [World.rangeAt_drew]
    exact World.rangeAt_alloc (rangeAt_at _ _ _ _ _ rfl) _
  · rw [World.rangeAt_drew]
    exact rangeAt_at _ _ _ _ _ (by simp)
  rintro e w1 ⟨rfl, hb⟩
  rw [hfl]
  have hbu : Below u.heap.size u w1 := hb0.trans (hb.mono (by simp <;> omega))
  exact ⟨rfl, there_same hth (hbu.block _ (by have := hu.sz; omega)), hu.stable hbu⟩
set_option maxRecDepth 100000 in
set_option maxHeartbeats 1000000 in
theorem node_any (w : World) (l r : List UInt8) (hl : l.length = 32) (hr : r.length = 32) :
    Calls Try.prog 33 #[SumV l, SumV r] w fun e w' => e = .returned (SumV (nodeF F l r)) ∧ Below w.heap.size w w' := by
  have HC := Lib.hid (fun u => node_call HF w u l r hl hr)
  have hD : (nodeF F l r).length = 32 := HF.len _
  generalize nodeF F l r = D at HC hD
  unfold SumV
  have hi := info_of D hD
  have hn : (D.map B8).length = 32 := by rw [List.length_map, hD]
  have h1 := b8_oneCell D
  have hll : (l.map B8).length = 32 := by rw [List.length_map, hl]
  have hrl : (r.map B8).length = 32 := by rw [List.length_map, hr]
  have HS : Hid (∀ (cl cr : List Value), cl = l.map B8 → cr = r.map B8 → ∀ z : Array Value, z.size = 32 → (((w.alloc (.cells cl.toArray 26)).alloc (.cells cr.toArray 26)).alloc (.cells z 26)).there (w.heap.size + 2) 0 32 ∧
      NodeS w l r (((w.alloc (.cells cl.toArray 26)).alloc (.cells cr.toArray 26)).alloc (.cells z 26))) := Lib.hid (by
    rintro cl cr rfl rfl z hz
    refine ⟨?_, ⟨?_, ?_, ?_, ?_⟩⟩
    · exact there_blk (heap_alloc_at _ _ _ (by simp)) (by omega)
    · exact (((Below.refl _ _).alloc (Nat.le_refl _) _).alloc (by simp) _).alloc (by simp <;> omega) _
    · simp
    · exact World.rangeAt_alloc (World.rangeAt_alloc (rangeAt_at _ _ _ _ _ rfl) _) _
    · exact World.rangeAt_alloc (rangeAt_at _ _ _ _ _ (by simp)) _)
  have HSd : Hid (∀ u : World, u.there (w.heap.size + 2) 0 32 ∧ NodeS w l r u → u.drew.there (w.heap.size + 2) 0 32 ∧ NodeS w l r u.drew) := Lib.hid (fun u h => ⟨(World.there_drew _ _ _ _).2 h.1, h.2.stable (below_drewN (Below.refl _ _) 1)⟩)
  have HSa : Hid (∀ (u : World) (o : Obj), u.there (w.heap.size + 2) 0 32 ∧ NodeS w l r u → (u.alloc o).there (w.heap.size + 2) 0 32 ∧ NodeS w l r (u.alloc o)) := Lib.hid (fun u o h => ⟨World.there_alloc h.1 _, h.2.stable ((Below.refl _ _).alloc (Nat.le_refl _) _)⟩)
  go_enter Try.func33, Try.ntmps33
  go_wp2_with fail
  go_region_held3 (fun w' => w'.there (w.heap.size + 1 + 1) 0 32 ∧ NodeS w l r w')
    (first
      | exact HSd.out _ (HS.out _ _ rfl rfl _ rfl)
      | exact HSd.out _ (HSa.out _ _ (HS.out _ _ rfl rfl _ rfl))
      | exact HSd.out _ (HSa.out _ _ (HSa.out _ _ (HS.out _ _ rfl rfl _ rfl)))
      | assumption
      | exact ⟨World.there_setCells (And.left (by assumption)) _ _ _, NodeS.stored (And.right (by assumption)) _ _⟩)
    (first | (go_at_call 25; refine (HC.out _ (HS.out _ _ rfl rfl _ rfl).1 (HS.out _ _ rfl rfl _ rfl).2 _ _ (by simp) (by simp)).mono ?_; rintro e w' ⟨rfl, hs⟩))
  go_wp2_with fail
  refine bodyPost_ret (v := .agg (D.map B8).toArray) ?_ rfl ⟨rfl, (hs.2.stored _ _).below⟩
  exact results_cell (s := 4) rfl _ _ _ (w.heap.size + 1 + 1) 0 rfl (D.map B8) _ (World.rangeAt_setCells_same _ _ _ _ (by rw [hn]; exact hs.1)) Try.underlying26 rfl hi
theorem refleaf_any (w : World) (A : Option Addr) (n c : Nat) (b : List UInt8) (hr : RB w A n b) (hn : n ≤ 1000000) :
    Calls Try.prog 32 #[.slice A n c] w fun e w' => e = .returned (SumV (F (0 :: b))) ∧ Below w.heap.size w w' := by
  have hlen := hr.len
  have Hlen := Lib.hid hlen
  have hD := HF.len (0 :: b)
  have hS := fun w A n c h hn => HF.ref w A n c (0 :: b) h hn
  generalize hDe : F (0 :: b) = D at hS hD ⊢
  have HS := Lib.hid hS
  clear hlen hS hDe
  go_enter Try.func32, Try.ntmps32
  go_wp2_with (at_builtin; refine wpList_append_keep rfl (.tmp 3) (.tmp 4) 22 rfl w ?hW Try.underlying22 info_u8 rfl (by decide) (.slice (some ⟨w.heap.size + 1, 0, none⟩) 1 1) 1 [B8 0] rfl ?hown A n c (b.map B8) rfl ?hrc (by rw [List.length_map, Hlen.out]; omega) (b8_oneCell b) (by unfold maxLen; omega) (by omega) ?_; (case hW => exact ((Below.refl _ _).alloc (Nat.le_refl _) _).alloc (by simp) _); (case hown => exact own_one (by simp) _ _ _ (by simp)); (case hrc => exact (hr.below (((Below.refl _ _).alloc (Nat.le_refl _) _).alloc (by simp) _)).rc); intro v3 w3 hown3 hb3 _ hg3 _)
  have hres := (hg3.block w.heap.size (by simp <;> omega) (by simp [Value.ownBlock])).trans ((Below.heap_alloc _ _ _ (by simp)).trans (heap_alloc_new w _))
  rw [show [B8 0] ++ b.map B8 = (0 :: b).map B8 from rfl] at hown3
  obtain ⟨A3, n3, c3, rfl, -, -, hr3⟩ := SB.of_own hown3
  have hn3 : n3 ≤ 70368744177664 := by have := hr3.len; rw [List.length_cons, Hlen.out] at this; omega
  have hlt3 : w.heap.size < w3.heap.size := (Array.getElem?_eq_some_iff.1 hres).1
  clear hown3 hg3
  refine (HS.out _ _ _ _ hr3 hn3).mono ?_
  rintro e w4 ⟨rfl, hb4⟩
  have hres4 := heap_below hres hb4
  have hb04 := hb3.trans (hb4.mono hb3.size)
  have hlt := Nat.lt_of_lt_of_le hlt3 hb4.size
  have hth := there32 hres4 D hD rfl
  have hi := info_of' D hD
  have hi2 := info_of D hD
  have HB := Lib.hid hb04
  have Hlt := Lib.hid hlt
  clear hb3 hb4 hb04 hlt hlt3 hres hres4 hD hr3 hn3
  go_wp2_with ((with_reducible show wpList _ _ _ (⟨_, Op.store 26 _ _, _, _, _, _⟩ :: _) _ _); refine wpList_store_row rfl _ _ _ rfl w.heap.size 0 (D.map B8).toArray rfl rfl hth hi (b8_all D) ?_; intro w8 hg8 hs8 ht8 hth8)
  refine bodyPost_ret (v := SumV D) ?_ rfl ⟨rfl, ?_⟩
  · exact results_cell (s := 2) rfl _ _ _ w.heap.size 0 rfl (D.map B8) _ (by simpa using ht8) Try.underlying26 rfl hi2
  · exact HB.out.grown hg8 (Nat.le_of_lt Hlt.out) (by intro k hk; cases hk; exact Nat.le_refl _)
end
set_option maxRecDepth 100000 in
theorem reftext_any (w : World) (l r : List UInt8) (hl : l.length = 32) (hr : r.length = 32) :
    Calls Try.prog 84 #[SumV l, SumV r] w fun e w' => ∃ v, e = .returned v ∧ SB w' v (1 :: (l ++ r)) ∧ Below w.heap.size w w' := by
  unfold SumV
  have hll : (l.map B8).length = 32 := by rw [List.length_map, hl]
  have hrl : (r.map B8).length = 32 := by rw [List.length_map, hr]
  have HS : Hid (∀ (cl cr : List Value), cl = l.map B8 → cr = r.map B8 → ∀ W, W = (w.alloc (.cells cl.toArray 26)).alloc (.cells cr.toArray 26) →
      Below w.heap.size w W ∧ W.rangeAt w.heap.size 0 (l.map B8) ∧ W.rangeAt (w.heap.size + 1) 0 (r.map B8)) := Lib.hid (by
    rintro cl cr rfl rfl W rfl
    exact ⟨((Below.refl _ _).alloc (Nat.le_refl _) _).alloc (by simp) _, World.rangeAt_alloc (rangeAt_at _ _ _ _ _ rfl) _, rangeAt_at _ _ _ _ _ (by simp)⟩)
  go_enter Try.func84, Try.ntmps84
  go_wp2_with fail
  obtain ⟨W2, hW2⟩ : ∃ W2, W2 = (w.alloc (.cells (l.map B8).toArray 26)).alloc (.cells (r.map B8).toArray 26) := ⟨_, rfl⟩
  rw [← hW2]
  obtain ⟨hb2, hlb, hrb⟩ := HS.out _ _ rfl rfl W2 hW2
  have Hb2 := Lib.hid hb2
  have Hlb := Lib.hid (fun u (hb : Below W2.heap.size W2 u) => RV.rc (RV.of_rangeAt (rangeAt_below' hlb hb) hll))
  have Hrb := Lib.hid (fun u (hb : Below W2.heap.size W2 u) => RV.rc (RV.of_rangeAt (rangeAt_below' hrb hb) hrl))
  have HD : Hid (Below W2.heap.size W2 W2.drew) := Lib.hid (below_drewN (Below.refl _ _) 1)
  have HA : Hid (∀ o, Below W2.heap.size W2 (W2.alloc o).drew) := Lib.hid (fun o => below_drewN ((Below.refl _ _).alloc (Nat.le_refl _) _) 1)
  have HO : Hid ((W2.alloc (.cells #[.int .u8 1] 5)).drew.ownsRow W2.heap.size 5 1 (.slice (some ⟨W2.heap.size, 0, none⟩) 1 1) 1 [B8 1]) := Lib.hid ((own_one (Nat.le_refl _) _ _ _ rfl).drew)
  clear hb2 hlb hrb HS hW2
  go_region_held3 (fun w' => Below W2.heap.size W2 w')
    (first | exact HD.out | exact HA.out _ | assumption)
    (first
      | (refine step_append_row rfl (.tmp 5) (.tmp 6) 22 rfl W2 (HA.out _) Try.underlying22 info_u8 rfl (by decide) (.slice (some ⟨W2.heap.size, 0, none⟩) 1 1) 1 [B8 1] rfl HO.out (some ⟨w.heap.size, 0, none⟩) 32 32 (l.map B8) rfl (Hlb.out _ (HA.out _)) (by rw [hll]) (b8_oneCell l) (by unfold maxLen; omega) (by omega) ?_; intro v3 w3 hown3 hb3)
      | (refine step_append_row rfl (.tmp 7) (.tmp 8) 22 rfl W2 hb3 Try.underlying22 info_u8 rfl (by decide) v3 (1 + 32) _ rfl hown3 (some ⟨w.heap.size + 1, 0, none⟩) 32 32 (r.map B8) rfl (Hrb.out _ hb3) (by rw [hrl]) (b8_oneCell r) (by unfold maxLen; omega) (by omega) ?_; intro v4 w4 hown4 hb4))
  go_wp2_with fail
  go_ret
  refine ⟨v4, rfl, SB.of_own (k := 65) (e := 5) (base := W2.heap.size) ?_, Hb2.out.trans (hb4.mono Hb2.out.size)⟩
  rw [show (1 :: (l ++ r)).map B8 = [B8 1] ++ l.map B8 ++ r.map B8 by simp]
  exact hown4
theorem res33 {w w' : World} {o1 o2 o3 : Obj} (h : Below (((w.alloc o1).alloc o2).alloc o3).heap.size (((w.alloc o1).alloc o2).alloc o3) w') : w'.heap[w.heap.size + 2]? = some o3 :=
  heap_below (heap_alloc_at _ _ _ (by simp)) h
section
variable {F : List UInt8 → List UInt8} (HF : Dig F)
include HF
set_option maxRecDepth 100000 in
theorem refnode_any (w : World) (l r : List UInt8) (hl : l.length = 32) (hr : r.length = 32) :
    Calls Try.prog 34 #[SumV l, SumV r] w fun e w' => e = .returned (SumV (nodeF F l r)) ∧ Below w.heap.size w w' := by
  have hT := fun w => reftext_any w l r hl hr
  have hD : (nodeF F l r).length = 32 := HF.len _
  have hS : ∀ w A n c, RB w A n (1 :: (l ++ r)) → n ≤ 70368744177664 → Calls Try.prog 26 #[.slice A n c] w fun e w' => e = .returned (.agg ((nodeF F l r).map B8).toArray) ∧ Below w.heap.size w w' := fun w A n c h hn => HF.ref w A n c _ h hn
  generalize nodeF F l r = D at hS hD ⊢
  unfold SumV at hT ⊢
  have hi1 := info_of l hl
  have hi2 := info_of r hr
  have HS : Hid (∀ (cl cr : List Value), cl = l.map B8 → cr = r.map B8 → ∀ (z : Array Value) W, W = ((w.alloc (.cells cl.toArray 26)).alloc (.cells cr.toArray 26)).alloc (.cells z 26) →
      W.rangeAt w.heap.size 0 (l.map B8) ∧ W.rangeAt (w.heap.size + 1) 0 (r.map B8)) := Lib.hid (by
    rintro cl cr rfl rfl z W rfl
    exact ⟨World.rangeAt_alloc (World.rangeAt_alloc (rangeAt_at _ _ _ _ _ rfl) _) _, World.rangeAt_alloc (rangeAt_at _ _ _ _ _ (by simp)) _⟩)
  have HT := Lib.hid hT
  have HR := Lib.hid hS
  clear hT hS
  go_enter Try.func34, Try.ntmps34
  go_wp2_with (first
    | ((with_reducible show wpList _ _ _ (⟨_, Op.load 26 (.tmp 2), _, _, _, _⟩ :: _) _ _); refine wpList_load_mid rfl _ _ rfl w.heap.size 0 rfl (l.map B8) _ (HS.out _ _ rfl rfl _ _ rfl).1 Try.underlying26 rfl hi1 ?_)
    | ((with_reducible show wpList _ _ _ (⟨_, Op.load 26 (.tmp 3), _, _, _, _⟩ :: _) _ _); refine wpList_load_mid rfl _ _ rfl (w.heap.size + 1) 0 rfl (r.map B8) _ (HS.out _ _ rfl rfl _ _ rfl).2 Try.underlying26 rfl hi2 ?_))
  refine (HT.out _).mono ?_
  rintro e w1 ⟨v, rfl, hv, hb1⟩
  obtain ⟨A, n, c, rfl, -, -, hrb⟩ := hv
  have hn : n ≤ 70368744177664 := by have := hrb.len; simp [hl, hr] at this; omega
  have hb01 := bel3 hb1
  have hres1 := res33 hb1
  clear hb1 HS
  go_wp2_with fail
  refine (HR.out _ _ _ _ hrb hn).mono ?_
  rintro e w4 ⟨rfl, hb4⟩
  have hres4 := heap_below hres1 hb4
  have hb04 := hb01.trans (hb4.mono hb01.size)
  have hlt : w.heap.size + 2 < w4.heap.size := (Array.getElem?_eq_some_iff.1 hres4).1
  have hth := there32 hres4 D hD rfl
  have hi := info_of' D hD
  have hi2 := info_of D hD
  have HB := Lib.hid hb04
  have Hlt := Lib.hid hlt
  clear hb01 hb4 hb04 hlt hres1 hres4 hD hrb hn
  go_wp2_with ((with_reducible show wpList _ _ _ (⟨_, Op.store 26 _ _, _, _, _, _⟩ :: _) _ _); refine wpList_store_row rfl _ _ _ rfl (w.heap.size + 2) 0 (D.map B8).toArray rfl rfl hth hi (b8_all D) ?_; intro w8 hg8 hs8 ht8 hth8)
  refine bodyPost_ret (v := .agg (D.map B8).toArray) ?_ rfl ⟨rfl, ?_⟩
  · exact results_cell (s := 4) rfl _ _ _ (w.heap.size + 2) 0 rfl (D.map B8) _ (by simpa using ht8) Try.underlying26 rfl hi2
  · exact HB.out.grown hg8 (by have := Hlt.out; omega) (by intro k hk; cases hk; omega)
end
end Go.Proofs.Ytkcmacglomdfcaa
