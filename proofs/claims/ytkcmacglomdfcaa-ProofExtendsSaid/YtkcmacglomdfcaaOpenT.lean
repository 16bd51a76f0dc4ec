/-
  STRUCTS THAT CAME IN: of digests, numbers and rows of digests.
-/
import Derived.Test.YtkcmacglomdfcaaLfF
import Derived.ChangeArms
namespace Go.Proofs.Ytkcmacglomdfcaa
open Go.ChangeShapes Go.WideShapes Go.ChangeAt Go.RowKit

section
variable {H : Type} {enc : TypeId × Value → H} {P : Program} {w : World} {base : Nat} {held : Bool}
theorem trod_sums {t te e : TypeId} {fuel : Nat} {cs : List Value} {x : DataW H × List MemPlace} (ht : P.underlying t = some (.slice te)) (K : WideMaps.ArrKey P te e 32) (he : P.underlying e = some (.int .u8))
    (h : DataW.trod enc P w base (fun _ => true) held fuel t cs = some x) : ∃ v ls, cs = [v] ∧ SS w v ls := by
  rcases Go.Deep.open_slice ht h with ⟨hcs, hx⟩ | ⟨a', len', cap', m, n, D, Pl, hcs, _, hl, hm, hmm, hx, hel⟩
  · exact ⟨_, [], hcs, none, 0, 0, rfl, Nat.le_refl _, Nat.zero_le _, RS.nil _ _⟩
  · rw [if_pos rfl] at hmm
    subst hmm
    have key : ∀ i, i < len' → ∃ bs : List UInt8, bs.length = 32 ∧ ∀ j u, (bs.map B8)[j]? = some u → w.cell? (a'.add (i * 32 + j)) = some u := by
      intro i hi
      obtain ⟨cs', hcs', htr⟩ := hel i (by omega)
      obtain ⟨bs, hbl, rfl⟩ := trod_sum K.hu he K.one K.size htr
      rw [K.size] at hcs'
      obtain ⟨_, _, hat⟩ := World.cells?_some hcs'
      refine ⟨bs, hbl, fun j u hu => ?_⟩
      have hj : j < 32 := by have := (List.getElem?_eq_some_iff.1 hu).1; simpa [hbl] using this
      have h0 := hat (i := j) hj
      rw [Addr.add_add] at h0
      rw [h0]
      exact hu
    have hlist : ∀ k, k ≤ len' → ∃ ls : List (List UInt8), ls.length = k ∧ (∀ x ∈ ls, x.length = 32) ∧ ∀ i x, ls[i]? = some x → ∀ j u, (x.map B8)[j]? = some u → w.cell? (a'.add (i * 32 + j)) = some u := by
      intro k
      induction k with
      | zero => intro _; exact ⟨[], rfl, fun x hx => by simp at hx, fun i x hx => by simp at hx⟩
      | succ k ih =>
        intro hk
        obtain ⟨ls, h1, h2, h3⟩ := ih (by omega)
        obtain ⟨bs, hb1, hb2⟩ := key k (by omega)
        refine ⟨ls ++ [bs], by simp [h1], fun x hx => ?_, fun i x hx => ?_⟩
        · rcases List.mem_append.1 hx with hx | hx
          · exact h2 x hx
          · simp at hx; subst hx; exact hb1
        · by_cases hi : i < ls.length
          · rw [List.getElem?_append_left hi] at hx; exact h3 i x hx
          · have hlt := (List.getElem?_eq_some_iff.1 hx).1
            simp at hlt
            obtain rfl : i = k := by omega
            rw [List.getElem?_append_right (by omega), h1] at hx
            simp at hx
            subst hx
            exact hb2
    obtain ⟨ls, h1, h2, h3⟩ := hlist len' (Nat.le_refl _)
    refine ⟨_, ls, hcs, _, len', _, rfl, hl, hm, h1, h2, fun hn => ?_⟩
    have hl0 : ls[0]? = some (ls[0]'(by omega)) := List.getElem?_eq_getElem (by omega)
    have h32 := h2 _ (List.getElem_mem (show 0 < ls.length by omega))
    have h0 := h3 0 _ hl0 0 (B8 ((ls[0]'(by omega))[0]'(by omega))) (by rw [List.getElem?_map, List.getElem?_eq_getElem (by omega)]; rfl)
    obtain ⟨b, off, spot⟩ := a'
    have hs : spot = none := by simpa [Addr.add] using World.cell?_spot h0
    subst hs
    refine ⟨b, off, rfl, fun i x hx j u hu => ?_⟩
    have := h3 i x hx j u hu
    rw [Addr.add_mid] at this
    rw [Nat.add_assoc]
    exact this
end
theorem cut_at {α : Type} (l : List α) (k j : Nat) {r : List α} (h : l.drop (k + j) = r) : l.drop k = (l.drop k).take j ++ r := by
  rw [← h, ← List.drop_drop, List.take_append_drop]
section
variable {H : Type} {enc : TypeId × Value → H} {w : World} {base : Nat} {held : Bool} {r : Reach} {b0 : Nat} {v : Value} {d : DataW H} {p : List MemPlace}
theorem cells_sum : Try.prog.cellsOf 26 = 32 := by kernel_rfl
theorem cells_int : Try.prog.cellsOf 3 = 1 := by kernel_rfl
theorem cells_sums : Try.prog.cellsOf 42 = 1 := by kernel_rfl
set_option maxRecDepth 100000 in
theorem open_coming (hv : Value.okWide Try.prog w r b0 78 v) (h : DataW.Trod enc Try.prog w base (fun _ => true) held 78 v d p) :
    ∃ (l : Dg) (i n : Int) (V : Value) (ps : List Dg) (rt : Dg), v = .agg (l.map B8 ++ ([.int .i64 i, .int .i64 n, V] ++ rt.map B8)).toArray ∧ l.length = 32 ∧ (Lit.int .i64 i).wf = true ∧ (Lit.int .i64 n).wf = true ∧ SS w V ps ∧ rt.length = 32 := by
  obtain ⟨cs, rfl, hsz⟩ := okWide_struct Try.underlying78 hv
  have h67 : Try.prog.cellsOf 78 = 67 := by kernel_rfl
  obtain ⟨fuel, hf⟩ := h
  obtain ⟨xs, n, _, _, _, hxl, hel⟩ := DataW.trod_struct Try.underlying78 hf
  simp only [Value.cells] at hel
  rw [h67] at hsz
  obtain ⟨L, rfl⟩ : ∃ L : List Value, cs = L.toArray := ⟨cs.toList, rfl⟩
  have hL : L.length = 67 := by simpa using hsz
  have g0 := hel 0 _ rfl
  have g1 := hel 1 _ rfl
  have g2 := hel 2 _ rfl
  have g3 := hel 3 _ rfl
  have g4 := hel 4 _ rfl
  match xs, hxl with
  | [x0, x1, x2, x3, x4], _ =>
    change DataW.trod enc Try.prog w base (fun _ => true) held _ 26 ((L.drop 0).take (Try.prog.cellsOf 26)) = some x0 at g0
    rw [cells_sum] at g0
    change DataW.trod enc Try.prog w base (fun _ => true) held _ 3 ((L.drop 32).take (Try.prog.cellsOf 3)) = some x1 at g1
    rw [cells_int] at g1
    change DataW.trod enc Try.prog w base (fun _ => true) held _ 3 ((L.drop 33).take (Try.prog.cellsOf 3)) = some x2 at g2
    rw [cells_int] at g2
    change DataW.trod enc Try.prog w base (fun _ => true) held _ 42 ((L.drop 34).take (Try.prog.cellsOf 42)) = some x3 at g3
    rw [cells_sums] at g3
    change DataW.trod enc Try.prog w base (fun _ => true) held _ 26 ((L.drop 35).take (Try.prog.cellsOf 26)) = some x4 at g4
    rw [cells_sum] at g4
    obtain ⟨l, hl, e0⟩ := trod_sum arrSum.hu Try.underlying5 arrSum.one arrSum.size g0
    obtain ⟨i, e1, _, wi⟩ := DataW.trod_int Try.underlying3 g1
    obtain ⟨n, e2, _, wn⟩ := DataW.trod_int Try.underlying3 g2
    obtain ⟨V, ps, e3, hV⟩ := trod_sums Try.underlying42 arrSum Try.underlying5 g3
    obtain ⟨rt, hrt, e4⟩ := trod_sum arrSum.hu Try.underlying5 arrSum.one arrSum.size g4
    refine ⟨l, i, n, V, ps, rt, ?_, hl, wi, wn, hV, hrt⟩
    have a4 : L.drop 35 = (L.drop 35).take 32 := (List.take_of_length_le (by simp; omega)).symm
    rw [e4] at a4
    have a3 := cut_at L 34 1 a4
    rw [e3] at a3
    have a2 := cut_at L 33 1 a3
    rw [e2] at a2
    have a1 := cut_at L 32 1 a2
    rw [e1] at a1
    have a0 := cut_at L 0 32 a1
    rw [e0, List.drop_zero] at a0
    rw [a0]
    rfl
set_option maxRecDepth 100000 in
theorem open_only (hv : Value.okWide Try.prog w r b0 81 v) (h : DataW.Trod enc Try.prog w base (fun _ => true) held 81 v d p) :
    ∃ (L : Value) (ls : List Dg) (i : Int) (l : Dg) (V : Value) (ps : List Dg), v = .agg ([L, .int .i64 i] ++ (l.map B8 ++ [V])).toArray ∧ SS w L ls ∧ (Lit.int .i64 i).wf = true ∧ l.length = 32 ∧ SS w V ps := by
  obtain ⟨cs, rfl, hsz⟩ := okWide_struct Try.underlying81 hv
  have h67 : Try.prog.cellsOf 81 = 35 := by kernel_rfl
  obtain ⟨fuel, hf⟩ := h
  obtain ⟨xs, n, _, _, _, hxl, hel⟩ := DataW.trod_struct Try.underlying81 hf
  simp only [Value.cells] at hel
  rw [h67] at hsz
  obtain ⟨L, rfl⟩ : ∃ L : List Value, cs = L.toArray := ⟨cs.toList, rfl⟩
  have hL : L.length = 35 := by simpa using hsz
  have g0 := hel 0 _ rfl
  have g1 := hel 1 _ rfl
  have g2 := hel 2 _ rfl
  have g3 := hel 3 _ rfl
  match xs, hxl with
  | [x0, x1, x2, x3], _ =>
    change DataW.trod enc Try.prog w base (fun _ => true) held _ 42 ((L.drop 0).take (Try.prog.cellsOf 42)) = some x0 at g0
    rw [cells_sums] at g0
    change DataW.trod enc Try.prog w base (fun _ => true) held _ 3 ((L.drop 1).take (Try.prog.cellsOf 3)) = some x1 at g1
    rw [cells_int] at g1
    change DataW.trod enc Try.prog w base (fun _ => true) held _ 26 ((L.drop 2).take (Try.prog.cellsOf 26)) = some x2 at g2
    rw [cells_sum] at g2
    change DataW.trod enc Try.prog w base (fun _ => true) held _ 42 ((L.drop 34).take (Try.prog.cellsOf 42)) = some x3 at g3
    rw [cells_sums] at g3
    obtain ⟨L0, ls, e0, hls⟩ := trod_sums Try.underlying42 arrSum Try.underlying5 g0
    obtain ⟨i, e1, _, wi⟩ := DataW.trod_int Try.underlying3 g1
    obtain ⟨l, hl, e2⟩ := trod_sum arrSum.hu Try.underlying5 arrSum.one arrSum.size g2
    obtain ⟨V, ps, e3, hV⟩ := trod_sums Try.underlying42 arrSum Try.underlying5 g3
    refine ⟨L0, ls, i, l, V, ps, ?_, hls, wi, hl, hV⟩
    have a3 : L.drop 34 = (L.drop 34).take 1 := (List.take_of_length_le (by simp; omega)).symm
    rw [e3] at a3
    have a2 := cut_at L 2 32 a3
    rw [e2] at a2
    have a1 := cut_at L 1 1 a2
    rw [e1] at a1
    have a0 := cut_at L 0 1 a1
    rw [e0, List.drop_zero] at a0
    rw [a0]
    rfl
set_option maxRecDepth 100000 in
theorem open_first (hv : Value.okWide Try.prog w r b0 89 v) (h : DataW.Trod enc Try.prog w base (fun _ => true) held 89 v d p) :
    ∃ (L : Value) (ls : List Dg) (i : Int) (l : Dg) (V : Value) (ps : List Dg), v = .agg ([L, .int .i64 i] ++ (l.map B8 ++ [V])).toArray ∧ SS w L ls ∧ (Lit.int .i64 i).wf = true ∧ l.length = 32 ∧ SS w V ps := by
  obtain ⟨cs, rfl, hsz⟩ := okWide_struct Try.underlying89 hv
  have h67 : Try.prog.cellsOf 89 = 35 := by kernel_rfl
  obtain ⟨fuel, hf⟩ := h
  obtain ⟨xs, n, _, _, _, hxl, hel⟩ := DataW.trod_struct Try.underlying89 hf
  simp only [Value.cells] at hel
  rw [h67] at hsz
  obtain ⟨L, rfl⟩ : ∃ L : List Value, cs = L.toArray := ⟨cs.toList, rfl⟩
  have hL : L.length = 35 := by simpa using hsz
  have g0 := hel 0 _ rfl
  have g1 := hel 1 _ rfl
  have g2 := hel 2 _ rfl
  have g3 := hel 3 _ rfl
  match xs, hxl with
  | [x0, x1, x2, x3], _ =>
    change DataW.trod enc Try.prog w base (fun _ => true) held _ 42 ((L.drop 0).take (Try.prog.cellsOf 42)) = some x0 at g0
    rw [cells_sums] at g0
    change DataW.trod enc Try.prog w base (fun _ => true) held _ 3 ((L.drop 1).take (Try.prog.cellsOf 3)) = some x1 at g1
    rw [cells_int] at g1
    change DataW.trod enc Try.prog w base (fun _ => true) held _ 26 ((L.drop 2).take (Try.prog.cellsOf 26)) = some x2 at g2
    rw [cells_sum] at g2
    change DataW.trod enc Try.prog w base (fun _ => true) held _ 42 ((L.drop 34).take (Try.prog.cellsOf 42)) = some x3 at g3
    rw [cells_sums] at g3
    obtain ⟨L0, ls, e0, hls⟩ := trod_sums Try.underlying42 arrSum Try.underlying5 g0
    obtain ⟨i, e1, _, wi⟩ := DataW.trod_int Try.underlying3 g1
    obtain ⟨l, hl, e2⟩ := trod_sum arrSum.hu Try.underlying5 arrSum.one arrSum.size g2
    obtain ⟨V, ps, e3, hV⟩ := trod_sums Try.underlying42 arrSum Try.underlying5 g3
    refine ⟨L0, ls, i, l, V, ps, ?_, hls, wi, hl, hV⟩
    have a3 : L.drop 34 = (L.drop 34).take 1 := (List.take_of_length_le (by simp; omega)).symm
    rw [e3] at a3
    have a2 := cut_at L 2 32 a3
    rw [e2] at a2
    have a1 := cut_at L 1 1 a2
    rw [e1] at a1
    have a0 := cut_at L 0 1 a1
    rw [e0, List.drop_zero] at a0
    rw [a0]
    rfl
set_option maxRecDepth 100000 in
theorem open_extending (hv : Value.okWide Try.prog w r b0 85 v) (h : DataW.Trod enc Try.prog w base (fun _ => true) held 85 v d p) :
    ∃ (m n : Int) (o rt : Dg) (V : Value) (ps : List Dg), v = .agg ([Value.int .i64 m, .int .i64 n] ++ (o.map B8 ++ (rt.map B8 ++ [V]))).toArray ∧ (Lit.int .i64 m).wf = true ∧ (Lit.int .i64 n).wf = true ∧ o.length = 32 ∧ rt.length = 32 ∧ SS w V ps := by
  obtain ⟨cs, rfl, hsz⟩ := okWide_struct Try.underlying85 hv
  have h67 : Try.prog.cellsOf 85 = 67 := by kernel_rfl
  obtain ⟨fuel, hf⟩ := h
  obtain ⟨xs, n, _, _, _, hxl, hel⟩ := DataW.trod_struct Try.underlying85 hf
  simp only [Value.cells] at hel
  rw [h67] at hsz
  obtain ⟨L, rfl⟩ : ∃ L : List Value, cs = L.toArray := ⟨cs.toList, rfl⟩
  have hL : L.length = 67 := by simpa using hsz
  have g0 := hel 0 _ rfl
  have g1 := hel 1 _ rfl
  have g2 := hel 2 _ rfl
  have g3 := hel 3 _ rfl
  have g4 := hel 4 _ rfl
  match xs, hxl with
  | [x0, x1, x2, x3, x4], _ =>
    change DataW.trod enc Try.prog w base (fun _ => true) held _ 3 ((L.drop 0).take (Try.prog.cellsOf 3)) = some x0 at g0
    rw [cells_int] at g0
    change DataW.trod enc Try.prog w base (fun _ => true) held _ 3 ((L.drop 1).take (Try.prog.cellsOf 3)) = some x1 at g1
    rw [cells_int] at g1
    change DataW.trod enc Try.prog w base (fun _ => true) held _ 26 ((L.drop 2).take (Try.prog.cellsOf 26)) = some x2 at g2
    rw [cells_sum] at g2
    change DataW.trod enc Try.prog w base (fun _ => true) held _ 26 ((L.drop 34).take (Try.prog.cellsOf 26)) = some x3 at g3
    rw [cells_sum] at g3
    change DataW.trod enc Try.prog w base (fun _ => true) held _ 42 ((L.drop 66).take (Try.prog.cellsOf 42)) = some x4 at g4
    rw [cells_sums] at g4
    obtain ⟨m, e0, _, wm⟩ := DataW.trod_int Try.underlying3 g0
    obtain ⟨k, e1, _, wk⟩ := DataW.trod_int Try.underlying3 g1
    obtain ⟨o, ho, e2⟩ := trod_sum arrSum.hu Try.underlying5 arrSum.one arrSum.size g2
    obtain ⟨rt, hrt, e3⟩ := trod_sum arrSum.hu Try.underlying5 arrSum.one arrSum.size g3
    obtain ⟨V, ps, e4, hV⟩ := trod_sums Try.underlying42 arrSum Try.underlying5 g4
    refine ⟨m, k, o, rt, V, ps, ?_, wm, wk, ho, hrt, hV⟩
    have a4 : L.drop 66 = (L.drop 66).take 1 := (List.take_of_length_le (by simp; omega)).symm
    rw [e4] at a4
    have a3 := cut_at L 34 32 a4
    rw [e3] at a3
    have a2 := cut_at L 2 32 a3
    rw [e2] at a2
    have a1 := cut_at L 1 1 a2
    rw [e1] at a1
    have a0 := cut_at L 0 1 a1
    rw [e0, List.drop_zero] at a0
    rw [a0]
    rfl
end
end Go.Proofs.Ytkcmacglomdfcaa
