/-
  WHAT the last laws of Runs have in common.
-/
import Derived.Test.YtkfpnilbjjkhgaaRnHE
import Derived.Test.YtkfpnilbjjkhgaaRnV
namespace Go.Proofs.Ytkfpnilbjjkhgaa
open Go.RowKit Go.Lib Go.Sort

theorem newF_ext {a b : List Po} (h : ∀ z, z ∈ a ↔ z ∈ b) : newF a = newF b := by
  obtain ⟨h1, h2⟩ := newF_all a
  obtain ⟨h3, h4⟩ := newF_all b
  exact Asc.uniq h1 h3 fun z => by rw [h2, h4, h]
theorem newF_two (a b : List Po) : newF ([newF a, newF b].flatten) = newF (a ++ b) := newF_ext fun z => by
  simp only [List.flatten_cons, List.flatten_nil, List.append_nil, List.mem_append, (newF_all a).2, (newF_all b).2]
/-- A run in a variable. -/
def RunBox (V : World) (bx : Nat) (A : Option Addr) (N c : Nat) (L : List Po) : Prop := V.rangeAt bx 0 [.slice A N c] ∧ RP V A N L ∧ N ≤ c ∧ c ≤ maxLen
theorem RunBox.below {V V' : World} {bx N c : Nat} {A : Option Addr} {L : List Po} (h : RunBox V bx A N c L) (hb : Below V.heap.size V V') : RunBox V' bx A N c L :=
  ⟨rangeAt_below' h.1 hb, h.2.1.below hb, h.2.2⟩
theorem rangeAt_blkcell {V : World} {bx : Nat} {v : Value} (h : V.rangeAt bx 0 [v]) : V.cell? ⟨bx, 0, none⟩ = some v := by
  have := h 0 v rfl
  simpa using this
theorem runs_two {w : World} {A1 A2 : Option Addr} {n1 n2 c1 c2 : Nat} {l1 l2 : List Po} (h1 : RP w A1 n1 l1) (h2 : RP w A2 n2 l2) (hc1 : n1 ≤ c1) (hc2 : n2 ≤ c2) (hm1 : c1 ≤ maxLen) (hm2 : c2 ≤ maxLen) :
    RunsAt (w.alloc (.cells #[.slice A1 n1 c1, .slice A2 n2 c2] 28)) (some ⟨w.heap.size, 0, none⟩) 2 [.slice A1 n1 c1, .slice A2 n2 c2] [l1, l2] := by
  have hb : Below w.heap.size w (w.alloc (.cells #[.slice A1 n1 c1, .slice A2 n2 c2] 28)) := (Below.refl _ _).alloc (Nat.le_refl _) _
  refine ⟨RV.new w _ _ 2 rfl, rfl, fun i v ls hv hl => ?_⟩
  rcases i with _ | _ | i
  · simp at hv hl
    subst hv hl
    exact ⟨A1, n1, c1, rfl, h1.below hb, hc1, hm1⟩
  · simp at hv hl
    subst hv hl
    exact ⟨A2, n2, c2, rfl, h2.below hb, hc2, hm2⟩
  · simp at hv
theorem asc_two (a b : List Po) : ∀ l ∈ [newF a, newF b], Asc l := by
  intro l hl
  simp at hl
  rcases hl with rfl | rfl
  · exact (newF_all a).1
  · exact (newF_all b).1

/-- A slice literal of aggregates. -/
theorem wpList_buildMany {P : Program} {ops : Array Oper} {rest : List Oper} {o : Oper} {a : Act} {w : World} {Q : Exit → Act → World → Prop} (hg : o.guard = none) (t e : TypeId) (n : Nat) (ps : Array (Nat × Operand)) (ho : o.op = .buildSlice t n ps)
    (vs : List Value) (hps : (ps.map fun (i, x) => (i, a.eval x)).toList = (vs.zipIdx 0).map fun x => (x.2, x.1)) (hn : vs.length = n) {z : Value} {size bytes : Nat} (hu : P.underlying t = some (.slice e)) (hinfo : (P.info? e).map (fun i => (i.zero, i.size, i.bytes)) = some (some z, size, bytes))
    (hl : ∀ v ∈ vs, v.cells.size = size) (hpos : 0 < size) (hn0 : 0 < n) (hsmall : n * size ≤ 1000) (cs : Array Value) (hcs : (vs.flatMap fun v => v.cells.toList).toArray = cs)
    (h : wpList P ops Q rest (a.put o.dst (.slice (some ⟨w.heap.size, 0, none⟩) n n)) (w.alloc (.cells cs e))) : wpList P ops Q (o :: rest) a w := by
  obtain ⟨i, hi, hz, hsize, hby⟩ := info_parts hinfo
  subst hsize hcs
  have h6 : 0 < n * i.size := Nat.mul_pos hn0 hpos
  refine wpList_buildSlice hg t e n ps ho _ i z hu hi hz (by have h3 : (1000 : Nat) ≤ 2 ^ 24 := (by decide); omega) (by omega) ?_ h
  rw [hps]
  exact Great.fill_whole hpos vs _ hl (by rw [hn]; simp)
theorem info_run3 : (Try.prog.info? 28).map (fun i => (i.zero, i.size, i.bytes)) = some (some (.agg #[.slice none 0 0]), 1, 24) := by kernel_rfl
theorem RunPost.box {w w' : World} {ls : List Po} {e : Ending} (h : RunPost ls w e w') : ∃ A c, e = .returned (.agg #[.slice A ls.length c]) ∧ Below w.heap.size w w' ∧ RunBox (w'.alloc (.cells #[.slice A ls.length c] 28)) w'.heap.size A ls.length c ls := by
  obtain ⟨A, c, rfl, h1, h2, h3, h4⟩ := h.rp
  have hb : Below w'.heap.size w' (w'.alloc (.cells #[.slice A ls.length c] 28)) := (Below.refl _ _).alloc (Nat.le_refl _) _
  exact ⟨A, c, rfl, h4, rangeAt_blk (heap_alloc_new w' _), h1.below hb, h2, h3⟩
end Go.Proofs.Ytkfpnilbjjkhgaa
