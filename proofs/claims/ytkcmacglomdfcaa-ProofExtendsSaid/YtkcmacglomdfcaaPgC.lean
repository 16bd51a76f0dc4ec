/-
  THE WALK of the law ProofCome.
-/
import Derived.Test.YtkcmacglomdfcaaPgB
import Derived.Test.YtkcmacglomdfcaaOpenT
namespace Go.Proofs.Ytkcmacglomdfcaa
open Go.RowKit

theorem comes_any (w : World) (d r : Dg) (hd : d.length = 32) (hr : r.length = 32) (V : Value) (ps : List Dg) (hV : SS w V ps) (i n : Int) :
    Calls Try.prog 64 #[SumV d, .int .i64 i, .int .i64 n, V, SumV r] w fun e w' => e = .returned (.bool true) ∧ Below w.heap.size w w' := by
  obtain ⟨A, m, c, rfl, hmc, hcm, hps⟩ := hV
  by_cases hm : 100 < m
  · exact comes_big w d r A m c i n hm
  · by_cases h : 1 ≤ n ∧ n ≤ 1048576 ∧ 0 ≤ i ∧ i < n
    · obtain ⟨n', rfl⟩ : ∃ n' : Nat, n = (n' : Int) := ⟨n.toNat, by omega⟩
      obtain ⟨i', rfl⟩ : ∃ i' : Nat, i = (i' : Int) := ⟨i.toNat, by omega⟩
      by_cases hl : m = (turns i' n').length
      · exact comes_yes w d r hd hr A m c i' n' (by omega) (by omega) ps hps hmc hcm hm hl
      · exact comes_len w d r hd hr A m c i' n' (by omega) (by omega) hm hl
    · exact comes_range w d r hd hr A m c i n hm h
theorem range_app {w : World} {g o : Nat} {a b : List Value} (h : w.rangeAt g o (a ++ b)) : w.rangeAt g o a ∧ w.rangeAt g (o + a.length) b := by
  refine ⟨fun j v hv => h j v ?_, fun j v hv => ?_⟩
  · have hj := (List.getElem?_eq_some_iff.1 hv).1
    rw [List.getElem?_append_left hj]; exact hv
  · have := h (a.length + j) v (by rw [List.getElem?_append_right (by omega), Nat.add_sub_cancel_left]; exact hv)
    rw [Nat.add_assoc]; exact this
theorem range_cell {w : World} {g o : Nat} {v : Value} {b : List Value} (h : w.rangeAt g o (v :: b)) : w.cell? ⟨g, o, none⟩ = some v := by
  have := h 0 v rfl
  exact this
set_option maxRecDepth 100000 in
set_option maxHeartbeats 2000000 in
theorem proofCome_law (w : World) (l : Dg) (hl : l.length = 32) (i n : Int) (V : Value) (ps : List Dg) (hV : SS w V ps) (rt : Dg) (hrt : rt.length = 32) :
    Calls Try.prog 15 #[.agg (l.map B8 ++ ([.int .i64 i, .int .i64 n, V] ++ rt.map B8)).toArray] w fun e w' => e = .returned (.bool true) ∧ Below w.heap.size w w' := by
  obtain ⟨cs, hcs⟩ : ∃ cs, cs = l.map B8 ++ ([.int .i64 i, .int .i64 n, V] ++ rt.map B8) := ⟨_, rfl⟩
  rw [← hcs]
  have hX : Hid (∀ W, W = w.alloc (.cells cs.toArray 78) → Below w.heap.size w W ∧ W.rangeAt w.heap.size 0 (l.map B8) ∧ W.cell? ⟨w.heap.size, 32, none⟩ = some (.int .i64 i) ∧ W.cell? ⟨w.heap.size, 33, none⟩ = some (.int .i64 n) ∧ W.cell? ⟨w.heap.size, 34, none⟩ = some V ∧ W.rangeAt w.heap.size 35 (rt.map B8)) := Lib.hid (by
    rintro W rfl
    have h0 : (w.alloc (.cells cs.toArray 78)).rangeAt w.heap.size 0 cs := rangeAt_at _ _ _ _ _ rfl
    have hb : Below w.heap.size w (w.alloc (.cells cs.toArray 78)) := (Below.refl _ _).alloc (Nat.le_refl _) _
    generalize w.alloc (.cells cs.toArray 78) = W at *
    rw [hcs] at h0
    obtain ⟨h1, h2⟩ := range_app h0
    obtain ⟨h2, h3⟩ := range_app h2
    rw [List.length_map, hl] at h2 h3
    have c1 := range_app (a := [.int .i64 i]) (b := [.int .i64 n, V]) h2
    have c2 := range_app (a := [.int .i64 n]) (b := [V]) c1.2
    exact ⟨hb, h1, range_cell c1.1, range_cell c2.1, range_cell c2.2, h3⟩)
  have hC := fun u (hu : SS u V ps) => comes_any u l rt hl hrt V ps hu i n
  have HC := Lib.hid hC
  have HV := Lib.hid hV
  have hi1 := info_of l hl
  have hi2 := info_of rt hrt
  clear hcs hC hV hl hrt
  unfold SumV at HC
  go_enter Try.func15, Try.ntmps15
  go_wp2_with (first
    | ((with_reducible show wpList _ _ _ (⟨_, Op.load 26 (.tmp 3), _, _, _, _⟩ :: _) _ _); obtain ⟨W, hW⟩ : ∃ W, W = w.alloc (.cells cs.toArray 78) := ⟨_, rfl⟩; obtain ⟨hb, h1, c1, c2, c3, h2⟩ := hX.out W hW; rw [← hW]; clear hW; refine wpList_load_mid rfl _ _ rfl w.heap.size 0 rfl (l.map B8) _ h1 Try.underlying26 rfl hi1 ?_; simp only [Act.put, List.setIfInBounds_toArray, List.set_cons_zero, List.set_cons_succ])
    | ((with_reducible show wpList _ _ _ (⟨_, Op.load 26 (.tmp 11), _, _, _, _⟩ :: _) _ _); refine wpList_load_mid rfl _ _ rfl w.heap.size 35 rfl (rt.map B8) _ h2 Try.underlying26 rfl hi2 ?_; simp only [Act.put, List.setIfInBounds_toArray, List.set_cons_zero, List.set_cons_succ]))
  refine (HC.out W (HV.out.below hb)).mono ?_
  rintro e w9 ⟨rfl, hb9⟩
  go_wp2_with fail
  go_ret
  exact ⟨rfl, hb.trans (hb9.mono hb.size)⟩
end Go.Proofs.Ytkcmacglomdfcaa
