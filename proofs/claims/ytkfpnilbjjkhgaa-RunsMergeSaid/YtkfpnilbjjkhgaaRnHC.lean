/-
  THE WALKS of container/heap's down, at runs.heads.
-/
import Derived.Test.YtkfpnilbjjkhgaaRnHB
namespace Go.Proofs.Ytkfpnilbjjkhgaa
open Go.RowKit Go.Lib Go.Sort

/-- The heap in memory: its box, its row of slices; each slice holds posts that lay there in w0. -/
structure HeapW (w0 : World) (hb g L c : Nat) (xs : List (Hx Value)) (u : World) : Prop where
  len : xs.length = L
  box : u.heap[hb]? = some (.cells #[.slice (some ⟨g, 0, none⟩) L c] 68 (0, 0))
  own : u.ownsRow w0.heap.size 25 1 (.slice (some ⟨g, 0, none⟩) L c) L (xs.map (·.1))
  below : Below w0.heap.size w0 u
  heads : ∀ x ∈ xs, HeadAt w0 x.1 x.2
  hbw : w0.heap.size ≤ hb
theorem own_frozen {u : World} {B s g n c k : Nat} {e : TypeId} {xs : List Value} (h : u.ownsRow B e s (.slice (some ⟨g, 0, none⟩) n c) k xs) (i : Nat) : u.frozen? ⟨g, i, none⟩ = false := by
  obtain ⟨cs, hc⟩ := own_obj h (b := g) rfl
  exact frozen_blk hc i
theorem HeapW.at_ {w0 u : World} {hb g L c i : Nat} {xs : List (Hx Value)} {x : Hx Value} (h : HeapW w0 hb g L c xs u) (hx : xs[i]? = some x) : u.cell? ⟨g, i, none⟩ = some x.1 ∧ HeadAt u x.1 x.2 ∧ u.frozen? ⟨g, i, none⟩ = false ∧ i < L := by
  refine ⟨?_, (h.heads x (List.mem_of_getElem? hx)).below h.below, own_frozen h.own i, ?_⟩
  · have := own_at h.own i x.1 (by rw [List.getElem?_map, hx]; rfl)
    rwa [Nat.zero_add] at this
  · have := (List.getElem?_eq_some_iff.1 hx).1
    have := h.len
    omega
theorem HeapW.of_below {w0 u u' : World} {hb g L c : Nat} {xs : List (Hx Value)} (h : HeapW w0 hb g L c xs u) (hb' : Below u.heap.size u u') : HeapW w0 hb g L c xs u' :=
  ⟨h.len, heap_below h.box hb', ownsRow_below h.own hb', h.below.trans (hb'.mono h.below.size), h.heads, h.hbw⟩
theorem HeapW.cellb {w0 u : World} {hb g L c : Nat} {xs : List (Hx Value)} (h : HeapW w0 hb g L c xs u) : u.cell? ⟨hb, 0, none⟩ = some (.slice (some ⟨g, 0, none⟩) L c) := by
  rw [cell_of_row _ _ _ _ _ _ h.box]; rfl
theorem grown_of_below {u u' : World} {row : Option Nat} (h : Below u.heap.size u u') : u.grownBy u' row := ⟨h.os, h.tape, h.output, h.size, fun k hk _ => h.block k hk⟩
theorem less_heap {w0 w : World} {hb g L c i j : Nat} {xs : List (Hx Value)} (h : HeapW w0 hb g L c xs w) (hi : i < L) (hj : j < L) :
    Calls Try.prog 83 #[.slice (some ⟨g, 0, none⟩) L c, .int .i64 (i : Int), .int .i64 (j : Int)] w fun e w' => e = .returned (.bool (lessAt xs i j)) ∧ HeapW w0 hb g L c xs w' ∧ w.grownBy w' (some g) := by
  obtain ⟨x, hx⟩ : ∃ x, xs[i]? = some x := ⟨_, List.getElem?_eq_getElem (by rw [h.len]; exact hi)⟩
  obtain ⟨y, hy⟩ : ∃ y, xs[j]? = some y := ⟨_, List.getElem?_eq_getElem (by rw [h.len]; exact hj)⟩
  obtain ⟨c1, h1, -, -⟩ := h.at_ hx
  obtain ⟨c2, h2, -, -⟩ := h.at_ hy
  refine (heads_less w g L c i j x y hi hj c1 c2 h1 h2).mono ?_
  rintro e w' ⟨rfl, hb'⟩
  exact ⟨by rw [lessAt_some hx hy], h.of_below hb', grown_of_below hb'⟩
theorem map_set_fst (xs : List (Hx Value)) (i : Nat) (x : Hx Value) : (xs.set i x).map (·.1) = (xs.map (·.1)).set i x.1 := by rw [List.map_set]
theorem swap_heap {w0 w : World} {hb g L c i j : Nat} {xs : List (Hx Value)} (h : HeapW w0 hb g L c xs w) (hi : i < L) (hj : j < L) :
    Calls Try.prog 85 #[.slice (some ⟨g, 0, none⟩) L c, .int .i64 (i : Int), .int .i64 (j : Int)] w fun e w' => e = .returned (.tuple #[]) ∧ HeapW w0 hb g L c (swapH xs i j) w' ∧ w.grownBy w' (some g) := by
  obtain ⟨⟨x1, x2⟩, hx⟩ : ∃ x, xs[i]? = some x := ⟨_, List.getElem?_eq_getElem (by rw [h.len]; exact hi)⟩
  obtain ⟨⟨y1, y2⟩, hy⟩ : ∃ y, xs[j]? = some y := ⟨_, List.getElem?_eq_getElem (by rw [h.len]; exact hj)⟩
  obtain ⟨c1, h1, f1, -⟩ := h.at_ hx
  obtain ⟨c2, h2, f2, -⟩ := h.at_ hy
  obtain ⟨b1, o1, m1, k1, e1, -⟩ := h1.ex
  obtain ⟨b2, o2, m2, k2, e2, -⟩ := h2.ex
  simp only at e1 e2 c1 c2
  rw [e1] at c1
  rw [e2] at c2
  refine (heads_swap w g L c i j m1 k1 m2 k2 _ _ hi hj c1 c2 f1 f2).mono ?_
  rintro e w' ⟨rfl, q, rfl⟩
  refine ⟨rfl, ?_, ?_⟩
  · have o3 := own_setCell_at (k := j) (x := (Value.slice (some ⟨b1, o1, none⟩) m1 k1)) (own_setCell_at (k := i) (x := (Value.slice (some ⟨b2, o2, none⟩) m2 k2)) h.own)
    have hne : hb ≠ g := fun e => own_notBox h.own h.box (by decide) (by rw [e]; rfl)
    have hg := (h.own.lt g rfl).1
    refine ⟨by rw [swapH_length]; exact h.len, ?_, ?_, ?_, ?_, h.hbw⟩
    · refine (Below.heap_setCell _ ⟨g, j, none⟩ _ _ hne).trans ((Below.heap_setCell _ ⟨g, i, none⟩ _ _ hne).trans h.box)
    · rw [swapH_at hx hy, map_set_fst, map_set_fst]
      simp only [e1, e2]
      exact own_of_block o3 fun _ _ => rfl
    · exact below_drewN ((h.below.setCell (p := ⟨g, i, none⟩) hg _).setCell (p := ⟨g, j, none⟩) hg _) q
    · intro z hz
      exact h.heads z ((swapH_perm xs i j).mem_iff.1 hz)
  · exact ⟨rfl, rfl, rfl, by simp [World.drewN], fun k hk hne => (Below.heap_setCell _ ⟨g, j, none⟩ _ _ (fun e => hne (by rw [e]))).trans (Below.heap_setCell _ ⟨g, i, none⟩ _ _ (fun e => hne (by rw [e])))⟩
/-- The state in the midst of down. -/
structure DnI (w0 : World) (hb g L c : Nat) (w : World) (R : List (Hx Value) × Nat) (k n f : Nat) (ys : List (Hx Value)) (u : World) : Prop where
  heap : HeapW w0 hb g L c ys u
  grown : w.grownBy u (some g)
  rest : dnF f ys k n = R
  fuel : n ≤ k + f
theorem DnI.stop {w0 w u : World} {hb g L c k n f : Nat} {R : List (Hx Value) × Nat} {ys : List (Hx Value)} (h : DnI w0 hb g L c w R k n f ys u) (hs : n ≤ 2 * k + 1 ∨ lessAt ys (childH ys k n) k = false) : R = (ys, k) := by
  rw [← h.rest]
  cases f with
  | zero => rfl
  | succ f =>
    rw [dnF]
    split
    · rfl
    · rename_i h1
      rcases hs with hs | hs
      · exact absurd hs h1
      · rw [if_neg (by rw [hs]; simp)]
theorem DnI.go {w0 w u u' : World} {hb g L c k n f j : Nat} {R : List (Hx Value) × Nat} {ys : List (Hx Value)} (h : DnI w0 hb g L c w R k n f ys u) (hlt : 2 * k + 1 < n) (hj : childH ys k n = j) (hs : lessAt ys j k = true) (hw : HeapW w0 hb g L c (swapH ys k j) u') (hg : u.grownBy u' (some g)) : ∃ f', DnI w0 hb g L c w R j n f' (swapH ys k j) u' := by
  have hf := h.fuel
  have hr := h.rest
  have hgt := childH_gt ys k n
  cases f with
  | zero => omega
  | succ f =>
    rw [dnF, if_neg (by omega), hj, if_pos hs] at hr
    exact ⟨f, hw, h.grown.trans hg, hr, by omega⟩
/-- What down leaves. -/
def DnPost (w0 : World) (hb g L c : Nat) (w : World) (R : List (Hx Value) × Nat) (i0 : Nat) (e : Ending) (w' : World) : Prop := e = .returned (.bool (decide (i0 < R.2))) ∧ HeapW w0 hb g L c R.1 w' ∧ w.grownBy w' (some g)
set_option maxRecDepth 100000 in
set_option maxHeartbeats 4000000 in
theorem down_any (w0 w : World) (hb g L c i0 n : Nat) (xs : List (Hx Value)) (h : HeapW w0 hb g L c xs w) (hi : i0 ≤ 1000000) (hn : n ≤ L) (hL : L ≤ 1000000) :
    Calls Try.prog 44 #[.iface 66 (.pointer (some ⟨hb, 0, none⟩)), .int .i64 (i0 : Int), .int .i64 (n : Int)] w (DnPost w0 hb g L c w (dnF n xs i0 n) i0) := by
  obtain ⟨R, hR⟩ : ∃ R, R = dnF n xs i0 n := ⟨_, rfl⟩
  rw [← hR]
  have hD : DnI w0 hb g L c w R i0 n n xs w := ⟨h, grownBy_refl _ _, hR.symm, by omega⟩
  have HD := Lib.hid hD
  clear hR hD h
  go_enter Try.func44, Try.ntmps44
  go_wp2_with fail
  go_loopw [7] (fun s wr => ∃ (k f : Nat) (ys : List (Hx Value)), s = .int .i64 (k : Int) ∧ k ≤ 1000000 ∧ Hid (DnI w0 hb g L c w R k n f ys wr)) (fun s _ => n - (intOf s).toNat)
  case atStart => exact ⟨i0, n, xs, rfl, hi, HD⟩
  case round =>
    obtain ⟨k, f, ys, rfl, hk, HW⟩ := hrel
    obtain ⟨V, rfl⟩ : ∃ V, V = wr := ⟨wr, rfl⟩
    by_cases hlt : 2 * k + 1 < n
    · obtain ⟨J1, hJ1, hJ1'⟩ : ∃ J1 : Nat, 2 * (k : Int) + 1 = (J1 : Int) ∧ J1 = 2 * k + 1 := ⟨2 * k + 1, by omega, rfl⟩
      obtain ⟨J2, hJ2, hJ2'⟩ : ∃ J2 : Nat, (J1 : Int) + 1 = (J2 : Int) ∧ J2 = 2 * k + 2 := ⟨2 * k + 2, by omega, rfl⟩
      have HJ1 := Lib.hid hJ1'
      have HJ2 := Lib.hid hJ2'
      have g1 : J1 < n := by omega
      have g1L : J1 < L := by omega
      have gm : k < J1 := by omega
      have gJ : J1 + 1 = J2 := by omega
      have GJ := Lib.hid gJ
      clear hJ1' hJ2' gJ
      by_cases g2 : J2 < n
      · have g2L : J2 < L := by omega
        have gm2 : k < J2 := by have := GJ.out; omega
        have hml := meth_less V hb _ HW.out.heap.cellb
        have hls := less_heap HW.out.heap g2L g1L
        obtain ⟨B1, hB1⟩ : ∃ B1, B1 = lessAt ys J2 J1 := ⟨_, rfl⟩
        rw [← hB1] at hls
        have HB1 := Lib.hid hB1
        have HLS := Lib.hid hls
        clear hB1 hls
        go_wp2_with fail
        refine HLS.out.mono ?_
        rintro e V1 ⟨rfl, hV1, hgV1⟩
        have hD1 : DnI w0 hb g L c w R k n f ys V1 := ⟨hV1, HW.out.grown.trans hgV1, HW.out.rest, HW.out.fuel⟩
        have HD1 := Lib.hid hD1
        clear hml hV1 hgV1 hD1 HLS HW
        have HW := HD1
        clear HD1
        obtain ⟨V, rfl⟩ : ∃ V, V = V1 := ⟨V1, rfl⟩
        cases B1 with
        | true =>
          have Hj : Hid (childH ys k n = J2) := Lib.hid (by
            unfold childH
            rw [if_pos ⟨by have := HJ2.out; omega, by rw [← HJ1.out, ← HJ2.out]; exact HB1.out.symm⟩, HJ2.out])
          have hjn : J2 < L := by omega
          have hk9 : k < L := by omega
          have hjn1 : J2 < n := by omega
          have hml := meth_less V hb _ HW.out.heap.cellb
          have hls := less_heap HW.out.heap hjn hk9
          obtain ⟨B2, hB2⟩ : ∃ B2, B2 = lessAt ys J2 k := ⟨_, rfl⟩
          rw [← hB2] at hls
          have HB2 := Lib.hid hB2
          have HLS := Lib.hid hls
          clear hB2 hls
          go_wp2_with fail
          refine HLS.out.mono ?_
          rintro e V2 ⟨rfl, hV2, hgV2⟩
          have hD2 : DnI w0 hb g L c w R k n f ys V2 := ⟨hV2, HW.out.grown.trans hgV2, HW.out.rest, HW.out.fuel⟩
          have HD2 := Lib.hid hD2
          clear hml hV2 hgV2 hD2 HLS
          cases B2 with
          | false =>
            have hR := HD2.out.stop (.inr (by rw [Hj.out]; exact HB2.out.symm))
            have HRs : Hid (DnPost w0 hb g L c w R i0 (.returned (.bool (decide (i0 < k)))) V2) := Lib.hid ⟨by rw [hR], by rw [hR]; exact HD2.out.heap, HD2.out.grown⟩
            clear hR
            go_wp2
            go_ret
            exact HRs.out
          | true =>
            have hms := meth_swap V2 hb _ HD2.out.heap.cellb
            have hsw := swap_heap HD2.out.heap hk9 hjn
            have HSW := Lib.hid hsw
            clear hsw
            go_wp2_with fail
            refine HSW.out.mono ?_
            rintro e V3 ⟨rfl, hV3, hgV3⟩
            obtain ⟨f3, hD3⟩ := HD2.out.go hlt Hj.out HB2.out.symm hV3 hgV3
            have HD3 := Lib.hid hD3
            clear hV3 hgV3 hD3 hms HSW
            go_wp2_with fail
            go_roundw
            case rel => exact ⟨J2, f3, swapH ys k J2, rfl, by omega, HD3⟩
            case measure => simp [intOf]; omega
        | false =>
          have Hj : Hid (childH ys k n = J1) := Lib.hid (by
            unfold childH
            rw [if_neg (by rw [← HJ1.out, ← HJ2.out, ← HB1.out]; simp), HJ1.out])
          have hjn : J1 < L := by omega
          have hk9 : k < L := by omega
          have hjn1 : J1 < n := by omega
          have hml := meth_less V hb _ HW.out.heap.cellb
          have hls := less_heap HW.out.heap hjn hk9
          obtain ⟨B2, hB2⟩ : ∃ B2, B2 = lessAt ys J1 k := ⟨_, rfl⟩
          rw [← hB2] at hls
          have HB2 := Lib.hid hB2
          have HLS := Lib.hid hls
          clear hB2 hls
          go_wp2_with fail
          refine HLS.out.mono ?_
          rintro e V2 ⟨rfl, hV2, hgV2⟩
          have hD2 : DnI w0 hb g L c w R k n f ys V2 := ⟨hV2, HW.out.grown.trans hgV2, HW.out.rest, HW.out.fuel⟩
          have HD2 := Lib.hid hD2
          clear hml hV2 hgV2 hD2 HLS
          cases B2 with
          | false =>
            have hR := HD2.out.stop (.inr (by rw [Hj.out]; exact HB2.out.symm))
            have HRs : Hid (DnPost w0 hb g L c w R i0 (.returned (.bool (decide (i0 < k)))) V2) := Lib.hid ⟨by rw [hR], by rw [hR]; exact HD2.out.heap, HD2.out.grown⟩
            clear hR
            go_wp2
            go_ret
            exact HRs.out
          | true =>
            have hms := meth_swap V2 hb _ HD2.out.heap.cellb
            have hsw := swap_heap HD2.out.heap hk9 hjn
            have HSW := Lib.hid hsw
            clear hsw
            go_wp2_with fail
            refine HSW.out.mono ?_
            rintro e V3 ⟨rfl, hV3, hgV3⟩
            obtain ⟨f3, hD3⟩ := HD2.out.go hlt Hj.out HB2.out.symm hV3 hgV3
            have HD3 := Lib.hid hD3
            clear hV3 hgV3 hD3 hms HSW
            go_wp2_with fail
            go_roundw
            case rel => exact ⟨J1, f3, swapH ys k J1, rfl, by omega, HD3⟩
            case measure => simp [intOf]; omega
      · have Hj : Hid (childH ys k n = J1) := Lib.hid (by
          unfold childH
          rw [if_neg (by have := HJ2.out; omega), HJ1.out])
        have hjn : J1 < L := by omega
        have hk9 : k < L := by omega
        have hjn1 : J1 < n := by omega
        have hml := meth_less V hb _ HW.out.heap.cellb
        have hls := less_heap HW.out.heap hjn hk9
        obtain ⟨B2, hB2⟩ : ∃ B2, B2 = lessAt ys J1 k := ⟨_, rfl⟩
        rw [← hB2] at hls
        have HB2 := Lib.hid hB2
        have HLS := Lib.hid hls
        clear hB2 hls
        go_wp2_with fail
        refine HLS.out.mono ?_
        rintro e V2 ⟨rfl, hV2, hgV2⟩
        have hD2 : DnI w0 hb g L c w R k n f ys V2 := ⟨hV2, HW.out.grown.trans hgV2, HW.out.rest, HW.out.fuel⟩
        have HD2 := Lib.hid hD2
        clear hml hV2 hgV2 hD2 HLS
        cases B2 with
        | false =>
          have hR := HD2.out.stop (.inr (by rw [Hj.out]; exact HB2.out.symm))
          have HRs : Hid (DnPost w0 hb g L c w R i0 (.returned (.bool (decide (i0 < k)))) V2) := Lib.hid ⟨by rw [hR], by rw [hR]; exact HD2.out.heap, HD2.out.grown⟩
          clear hR
          go_wp2
          go_ret
          exact HRs.out
        | true =>
          have hms := meth_swap V2 hb _ HD2.out.heap.cellb
          have hsw := swap_heap HD2.out.heap hk9 hjn
          have HSW := Lib.hid hsw
          clear hsw
          go_wp2_with fail
          refine HSW.out.mono ?_
          rintro e V3 ⟨rfl, hV3, hgV3⟩
          obtain ⟨f3, hD3⟩ := HD2.out.go hlt Hj.out HB2.out.symm hV3 hgV3
          have HD3 := Lib.hid hD3
          clear hV3 hgV3 hD3 hms HSW
          go_wp2_with fail
          go_roundw
          case rel => exact ⟨J1, f3, swapH ys k J1, rfl, by omega, HD3⟩
          case measure => simp [intOf]; omega
    · have hR := HW.out.stop (.inl (by omega))
      have HRs : Hid (DnPost w0 hb g L c w R i0 (.returned (.bool (decide (i0 < k)))) V) := Lib.hid ⟨by rw [hR], by rw [hR]; exact HW.out.heap, HW.out.grown⟩
      have hge : (n : Int) ≤ 2 * (k : Int) + 1 := by omega
      clear hR
      go_wp2
      go_ret
      exact HRs.out
end Go.Proofs.Ytkfpnilbjjkhgaa
