/-
  THE WALKS of the methods of runs.heads.
-/
import Derived.Test.YtkfpnilbjjkhgaaRnJ
import Derived.Test.YtkfpnilbjjkhgaaRnHP
namespace Go.Proofs.Ytkfpnilbjjkhgaa
open Go.RowKit Go.Lib Go.Sort

def heapT : TypeId := 66
theorem meth_len (w : World) (hb : Nat) (v : Value) (hc : w.cell? ⟨hb, 0, none⟩ = some v) : (method 226 66 (.pointer (some ⟨hb, 0, none⟩)) "Len").run Try.prog w = .ok (32, v) w := by
  have h : (method 226 66 (.pointer (some ⟨hb, 0, none⟩)) "Len").run Try.prog w = (do let v ← loadVar 68 ⟨hb, 0, none⟩; pure (32, v) : Sem (FuncId × Value)).run Try.prog w := by kernel_rfl
  rw [h]
  go_simp
theorem meth_less (w : World) (hb : Nat) (v : Value) (hc : w.cell? ⟨hb, 0, none⟩ = some v) : (method 226 66 (.pointer (some ⟨hb, 0, none⟩)) "Less").run Try.prog w = .ok (83, v) w := by
  have h : (method 226 66 (.pointer (some ⟨hb, 0, none⟩)) "Less").run Try.prog w = (do let v ← loadVar 68 ⟨hb, 0, none⟩; pure (83, v) : Sem (FuncId × Value)).run Try.prog w := by kernel_rfl
  rw [h]
  go_simp
theorem meth_swap (w : World) (hb : Nat) (v : Value) (hc : w.cell? ⟨hb, 0, none⟩ = some v) : (method 226 66 (.pointer (some ⟨hb, 0, none⟩)) "Swap").run Try.prog w = .ok (85, v) w := by
  have h : (method 226 66 (.pointer (some ⟨hb, 0, none⟩)) "Swap").run Try.prog w = (do let v ← loadVar 68 ⟨hb, 0, none⟩; pure (85, v) : Sem (FuncId × Value)).run Try.prog w := by kernel_rfl
  rw [h]
  go_simp
theorem meth_pop (w : World) (hb : Nat) : (method 226 66 (.pointer (some ⟨hb, 0, none⟩)) "Pop").run Try.prog w = .ok (84, .pointer (some ⟨hb, 0, none⟩)) w := by kernel_rfl
theorem heads_len (w : World) (A : Option Addr) (n c : Nat) : Calls Try.prog 32 #[.slice A n c] w fun e w' => e = .returned (.int .i64 n) ∧ w = w' := by
  go_enter Try.func32, Try.ntmps32
  go_wp2
  go_ret
  exact ⟨rfl, rfl⟩
/-- A slice of posts that is not empty, its first post p. -/
structure HeadAt (w : World) (v : Value) (ls : List Po) : Prop where
  ex : ∃ b o m c, v = .slice (some ⟨b, o, none⟩) m c ∧ ls.length = m ∧ 0 < m ∧ m ≤ c ∧ c ≤ maxLen ∧ w.rangeAt b o (flatP ls)
theorem HeadAt.below {w w' : World} {v : Value} {ls : List Po} (h : HeadAt w v ls) (hb : Below w.heap.size w w') : HeadAt w' v ls := by
  obtain ⟨b, o, m, c, h1, h2, h3, h4, h5, h6⟩ := h.ex
  exact ⟨b, o, m, c, h1, h2, h3, h4, h5, rangeAt_below' h6 hb⟩
theorem HeadAt.first {w : World} {b o m c : Nat} {ls : List Po} (h : HeadAt w (.slice (some ⟨b, o, none⟩) m c) ls) : w.rangeAt b o (encP (hdP ls)) := by
  obtain ⟨b', o', m', c', h1, h2, h3, h4, h5, h6⟩ := h.ex
  cases h1
  cases ls with
  | nil => simp at h2; omega
  | cons p r => exact rangeAt_left (ys := flatP r) h6
set_option maxRecDepth 100000 in
theorem heads_less (w : World) (g n c i j : Nat) (x y : Hx Value) (hi : i < n) (hj : j < n) (ci : w.cell? ⟨g, i, none⟩ = some x.1) (cj : w.cell? ⟨g, j, none⟩ = some y.1) (hx : HeadAt w x.1 x.2) (hy : HeadAt w y.1 y.2) :
    Calls Try.prog 83 #[.slice (some ⟨g, 0, none⟩) n c, .int .i64 (i : Int), .int .i64 (j : Int)] w fun e w' => e = .returned (.bool (lessH x y)) ∧ Below w.heap.size w w' := by
  obtain ⟨x1, x2⟩ := x
  obtain ⟨y1, y2⟩ := y
  obtain ⟨b1, o1, m1, c1, rfl, h2, h3, h4, h5, -⟩ := id hx.ex
  obtain ⟨b2, o2, m2, c2, rfl, k2, k3, k4, k5, -⟩ := id hy.ex
  have r1 := hx.first
  have r2 := hy.first
  obtain ⟨p, hp⟩ : ∃ p, p = hdP x2 := ⟨_, rfl⟩
  obtain ⟨q, hq⟩ : ∃ q, q = hdP y2 := ⟨_, rfl⟩
  obtain ⟨B, hB⟩ : ∃ B, B = ltP p q := ⟨_, rfl⟩
  have hR : lessH (Value.slice (some ⟨b1, o1, none⟩) m1 c1, x2) (Value.slice (some ⟨b2, o2, none⟩) m2 c2, y2) = B := by rw [hB, hp, hq]; rfl
  have HR := Lib.hid hR
  have HB := Lib.hid hB
  simp only at ci cj r1 r2
  rw [← hp] at r1
  rw [← hq] at r2
  rw [hR]
  clear hR hB hp hq hx hy h2 k2
  go_enter Try.func83, Try.ntmps83
  go_wp2_with fail
  refine wp_region_quietB (by kernel_rfl) (by kernel_rfl) (fun hne => ?_)
  have FI : ∀ z : InC (fun u => Below w.heap.size w u), z.w.cell? ⟨g, i, none⟩ = some (.slice (some ⟨b1, o1, none⟩) m1 c1) := fun z => (z.ok.cell (p := ⟨g, i, none⟩) (World.block_lt_of_cell? _ _ ci)).trans ci
  have FJ : ∀ z : InC (fun u => Below w.heap.size w u), z.w.cell? ⟨g, j, none⟩ = some (.slice (some ⟨b2, o2, none⟩) m2 c2) := fun z => (z.ok.cell (p := ⟨g, j, none⟩) (World.block_lt_of_cell? _ _ cj)).trans cj
  clear ci cj
  repeat (first
    | ((with_reducible show wpQuiet _ _ _ _ (⟨_, Op.load 31 (.tmp 11), _, _, _, _⟩ :: _) _); refine wpQ_loadB rfl _ _ rfl b1 o1 rfl (encP p) _ r1 Try.underlying31 rfl (info_post p) ?_; simp only [Act.put, List.setIfInBounds_toArray, List.set_cons_zero, List.set_cons_succ])
    | ((with_reducible show wpQuiet _ _ _ _ (⟨_, Op.load 31 (.tmp 17), _, _, _, _⟩ :: _) _); refine wpQ_loadB rfl _ _ rfl b2 o2 rfl (encP q) _ r2 Try.underlying31 rfl (info_post q) ?_; simp only [Act.put, List.setIfInBounds_toArray, List.set_cons_zero, List.set_cons_succ])
    | ((with_reducible show wpQuiet _ _ _ _ (⟨_, Op.call _, _, _, _, _⟩ :: _) _); refine wpQ_callB rfl 23 #[PV p, PV q] (fun u => by go_simp; exact ⟨rfl, rfl⟩) (.int .i64 (cmpP p q)) (fun u _ => cmp_below p q u) ?_; simp only [Act.put, List.setIfInBounds_toArray, List.set_cons_zero, List.set_cons_succ])
    | ((with_reducible show wpQuiet _ _ _ _ (⟨_, Op.binOp .lss _ (.tmp 19) _ _, _, _, _, _⟩ :: _) _); refine wpQ_val rfl (.bool B) (fun u _ => (exec_lss_int rfl _ _ rfl rfl u).trans (by rw [HB.out]; rfl)) ?_; simp only [Act.put, List.setIfInBounds_toArray, List.set_cons_zero, List.set_cons_succ])
    | go_big_quiet_step (fail))
  refine wpQuiet_nil ?_
  intro u hu
  have HU := Lib.hid hu
  clear hu FI FJ r1 r2
  go_wp2_with fail
  go_ret
  exact ⟨rfl, HU.out⟩
set_option maxRecDepth 100000 in
set_option maxHeartbeats 2000000 in
theorem heads_swap (w : World) (g n c i j m1 c1 m2 c2 : Nat) (a1 a2 : Addr) (hi : i < n) (hj : j < n) (ci : w.cell? ⟨g, i, none⟩ = some (.slice (some a1) m1 c1)) (cj : w.cell? ⟨g, j, none⟩ = some (.slice (some a2) m2 c2)) (fi : w.frozen? ⟨g, i, none⟩ = false) (fj : w.frozen? ⟨g, j, none⟩ = false) :
    Calls Try.prog 85 #[.slice (some ⟨g, 0, none⟩) n c, .int .i64 (i : Int), .int .i64 (j : Int)] w fun e w' => e = .returned (.tuple #[]) ∧ ∃ q, w' = ((w.setCell ⟨g, i, none⟩ (.slice (some a2) m2 c2)).setCell ⟨g, j, none⟩ (.slice (some a1) m1 c1)).drewN q := by
  obtain ⟨v', hy'⟩ := cell?_setCell_some (w := w) (p := ⟨g, i, none⟩) (x := .slice (some a2) m2 c2) (q := ⟨g, j, none⟩) cj
  go_enter Try.func85, Try.ntmps85
  go_wp2
  go_region
  all_goals (try go_wp2)
  all_goals go_end0
  all_goals exact ⟨rfl, 1, rfl⟩
end Go.Proofs.Ytkfpnilbjjkhgaa
