/-
  slices.Reverse at digests and at turns: the shelf's contracts laid at this program by the kit's own tool (lay-plain).
-/
import Derived.Shelf.SlGeneric
import Derived.Shelf.SlicesQ.Reverse
import Derived.Shelf.SlicesE.Reverse
import Derived.Test.YtkcmacglomdfcaaProg
import Derived.Test.YtkcmacglomdfcaaOpenS
import Derived.Lib.OwnBridge
namespace Go.Proofs.Ytkcmacglomdfcaa
open Go.Shelf
def revSum_ren : Go.Shelf.Ren := ⟨fun | 35 => 89 | n => n, fun | 22 => 42 | 23 => 26 | 3 => 3 | 4 => 4 | 0 => 0 | n => n, fun | n => n⟩
theorem revSum : Go.Proofs.SlLaysE0.n35 Try.prog revSum_ren := {
  mixed := by kernel_rfl
  f35 := ⟨Try.f89.name, by decide, Try.func89.trans (congrArg some (by kernel_rfl))⟩
  t0 := Try.underlying0
  a0 := Try.isAgg0
  z0 := Try.sizeOf0
  v0 := Try.zeroValue0
  t3 := Try.underlying3
  a3 := Try.isAgg3
  z3 := Try.sizeOf3
  v3 := Try.zeroValue3
  t4 := Try.underlying4
  a4 := Try.isAgg4
  z4 := Try.sizeOf4
  v4 := Try.zeroValue4
  t22 := Try.underlying42
  a22 := Try.isAgg42
  z22 := Try.sizeOf42
  v22 := Try.zeroValue42 }
def revTurn_ren : Go.Shelf.Ren := ⟨fun | 35 => 105 | n => n, fun | 22 => 137 | 23 => 140 | 3 => 3 | 4 => 4 | 0 => 0 | n => n, fun | n => n⟩
theorem revTurn : Go.Proofs.SlLaysE.n35 Try.prog revTurn_ren := {
  mixed := by kernel_rfl
  f35 := ⟨Try.f105.name, by decide, Try.func105.trans (congrArg some (by kernel_rfl))⟩
  t0 := Try.underlying0
  a0 := Try.isAgg0
  z0 := Try.sizeOf0
  v0 := Try.zeroValue0
  t3 := Try.underlying3
  a3 := Try.isAgg3
  z3 := Try.sizeOf3
  v3 := Try.zeroValue3
  t4 := Try.underlying4
  a4 := Try.isAgg4
  z4 := Try.sizeOf4
  v4 := Try.zeroValue4
  t22 := Try.underlying137
  a22 := Try.isAgg137
  z22 := Try.sizeOf137
  v22 := Try.zeroValue137
  a23 := Try.isAgg140
  z23 := Try.sizeOf140 }
end Go.Proofs.Ytkcmacglomdfcaa

/-
  slices.Reverse at digests and at turns, in this claim's words.
-/
namespace Go.Proofs.Ytkcmacglomdfcaa
open Go.RowKit Go.Sort

def encS (x : List UInt8) : List Value := ((x ++ List.replicate 32 0).take 32).map B8
theorem encS_len (x : List UInt8) : (encS x).length = 32 := by simp [encS]
theorem encS_of {x : List UInt8} (h : x.length = 32) : encS x = x.map B8 := by
  rw [encS, List.take_append_of_le_length (by omega), List.take_of_length_le (by omega)]
theorem encS_one (x : List UInt8) : ∀ v ∈ encS x, v.oneCell' = true := fun v hv => b8_oneCell _ v hv
theorem flat_at {ls : List (List UInt8)} (hl : ∀ x ∈ ls, x.length = 32) {j : Nat} (hj : j < ls.length * 32) : ∃ x c, ls[j / 32]? = some x ∧ x[j % 32]? = some c ∧ (flatK encS 32 ls.toArray)[j]! = B8 c := by
  have h1 : j / 32 < ls.length := by omega
  have hx : ls[j / 32]? = some (ls[j / 32]) := List.getElem?_eq_getElem h1
  have hx32 := hl _ (List.getElem_mem h1)
  have h2 : j % 32 < (ls[j / 32]).length := by omega
  refine ⟨_, (ls[j / 32])[j % 32], hx, List.getElem?_eq_getElem h2, ?_⟩
  rw [get_flatK _ _ _ _ (by simpa using hj)]
  have e1 : (ls.toArray)[j / 32]! = ls[j / 32] := by simp [getElem!_pos, h1]
  rw [e1, encS_of hx32]
  simp [getElem!_pos, h2]
theorem rev_sum (w : World) (B g n c : Nat) (ls : List (List UInt8)) (hown : w.ownsRow B 26 32 (.slice (some ⟨g, 0, none⟩) n c) n (ls.flatten.map B8)) (hl : ∀ x ∈ ls, x.length = 32) (hn : ls.length = n) (hm : n ≤ 1048576) :
    Calls Try.prog 89 #[.slice (some ⟨g, 0, none⟩) n c] w fun e w' => e = .returned (.tuple #[]) ∧ RS w' (some ⟨g, 0, none⟩) n ls.reverse ∧ (∀ W, Below B W w → Below B W w') := by
  subst hn
  have hg : B ≤ g ∧ ∃ cap cur, w.heap[g]? = some (.cells cur 26 (0, 0)) ∧ cur.size = cap * 32 := by
    rcases hown.2 with ⟨e, _⟩ | ⟨g', cap, cur, hv, hB, hh, _, _, hcs, _⟩
    · cases e
    · cases hv
      exact ⟨hB, _, _, hh, hcs⟩
  obtain ⟨hBg, cap, cur, hh, hcs⟩ := hg
  have hr : w.rangeAt g 0 (ls.flatten.map B8) := fun j u hu => by
    have := hown.cells (g := g) rfl j u hu
    rw [Addr.add_mid] at this
    exact this
  have hpart := rangeAt_part ls 0 hl hr
  have hH : HoldsK encS 32 w g 0 ls.toArray := by
    intro j hj
    have hj' : j < ls.length * 32 := by simpa using hj
    obtain ⟨x, ch, hx, hc, he⟩ := flat_at hl hj'
    refine ⟨?_, frozen_blk hh _⟩
    rw [he, Nat.zero_add]
    have h1 := hpart _ _ hx (j % 32) (B8 ch) (by rw [List.getElem?_map, hc]; rfl)
    rw [show 0 + j / 32 * 32 + j % 32 = j by omega] at h1
    exact h1
  have h := AnyQ.slices_Reverse revSum 32 Try.isAgg26 Try.sizeOf26 encS encS_len encS_one g 0 c ls.toArray w hH (by simp; omega)
  rw [List.size_toArray] at h
  refine h.mono fun e w' ⟨he, q, hw⟩ => ⟨he, ?_, fun W hb => ?_⟩
  · have hl' : ∀ x ∈ ls.reverse, x.length = 32 := fun x hx => hl x (by simpa using hx)
    refine ⟨by simp, hl', fun _ => ⟨g, 0, rfl, fun i x hx j u hu => ?_⟩⟩
    have hi : i < ls.length := by have := (List.getElem?_eq_some_iff.1 hx).1; simpa using this
    have hx32 := hl' x (List.mem_of_getElem? hx)
    have hj : j < 32 := by have := (List.getElem?_eq_some_iff.1 hu).1; simpa [hx32] using this
    rw [hw, putRowK]
    have hrev : ls.toArray.reverse = ls.reverse.toArray := by simp
    rw [hrev]
    have hput := cell?_putRow id (Sort.ahead w q) g 0 (flatK encS 32 ls.toArray) (flatK encS 32 ls.reverse.toArray) hH (by simp) (i * 32 + j) (by simp; omega)
    obtain ⟨x', ch, hx', hc, he'⟩ := flat_at hl' (j := i * 32 + j) (by simp; omega)
    rw [show (i * 32 + j) / 32 = i by omega] at hx'
    rw [show (i * 32 + j) % 32 = j by omega] at hc
    rw [hx] at hx'
    cases hx'
    rw [he'] at hput
    rw [show 0 + i * 32 + j = 0 + (i * 32 + j) by omega, hput]
    rw [List.getElem?_map, hc] at hu
    cases hu
    rfl
  · rw [hw]
    exact Lib.below_putRow hb hBg
theorem rev_none (w : World) (A : Option Addr) (c : Nat) : Calls Try.prog 89 #[.slice A 0 c] w fun e w' => e = .returned (.tuple #[]) ∧ w' = w :=
  AnyQ.slices_Reverse_empty revSum A c w
theorem turn_one : OneCell (fun b : Bool => Value.bool b) := fun _ => rfl
theorem rev_turns (w : World) (B g n c : Nat) (ts : List Bool) (hown : w.ownsRow B 140 1 (.slice (some ⟨g, 0, none⟩) n c) n (ts.map Value.bool)) (hn : ts.length = n) (hm : n ≤ 1048576) :
    Calls Try.prog 105 #[.slice (some ⟨g, 0, none⟩) n c] w fun e w' => e = .returned (.tuple #[]) ∧ w'.ownsRow B 140 1 (.slice (some ⟨g, 0, none⟩) n c) n (ts.reverse.map Value.bool) ∧ (∀ W, Below B W w → Below B W w') := by
  subst hn
  have hg : B ≤ g ∧ ∃ cur, w.heap[g]? = some (.cells cur 140 (0, 0)) := by
    rcases hown.2 with ⟨e, _⟩ | ⟨g', cap, cur, hv, hB, hh, _⟩
    · cases e
    · cases hv
      exact ⟨hB, _, hh⟩
  obtain ⟨hBg, cur, hh⟩ := hg
  have hH : Holds (fun b : Bool => Value.bool b) w g 0 ts.toArray := by
    intro j hj
    have hj' : j < ts.length := by simpa using hj
    refine ⟨?_, frozen_blk hh _⟩
    have := hown.cells (g := g) rfl j (.bool ts[j]) (by rw [List.getElem?_map, List.getElem?_eq_getElem hj']; rfl)
    rw [Addr.add_mid] at this
    rw [this]
    simp [getElem!_pos, hj']
  have h := AnyE.slices_Reverse revTurn (fun b : Bool => Value.bool b) turn_one g 0 c ts w hH (by omega)
  refine h.mono fun e w' ⟨he, q, hw⟩ => ⟨he, ?_, fun W hb => ?_⟩
  · rw [hw]
    have := Lib.ownsRow_putRow (enc := fun b : Bool => Value.bool b) (q := q) (ys := ts.reverse) (k := ts.length) hown (by simp) (Nat.le_refl _)
    rw [List.take_of_length_le (by simp)] at this
    exact this
  · rw [hw]
    exact Lib.below_putRow hb hBg
theorem rev_turns_none (w : World) (A : Option Addr) (c : Nat) : Calls Try.prog 105 #[.slice A 0 c] w fun e w' => e = .returned (.tuple #[]) ∧ w' = w :=
  AnyE.slices_Reverse_empty revTurn A c w
end Go.Proofs.Ytkcmacglomdfcaa
