/-
  WHAT IS ASKED OF RunsPlaces, OPENED.
-/
import Derived.Test.YtkfpnilbjjkhgaaRnX
namespace Go.Proofs.Ytkfpnilbjjkhgaa
open Go.ChangeShapes Go.WideShapes Go.ChangeAt Go.RowKit
section
variable {H : Type} {enc : TypeId × Value → H} {w : World} {base : Nat} {held : Bool}
theorem cells_rows : Try.prog.cellsOf 22 = 1 := by kernel_rfl
theorem cells_from : Try.prog.cellsOf 36 = 4 := by kernel_rfl
set_option maxRecDepth 100000 in
theorem open_from {v : Value} {d : DataW H} {p : List MemPlace} {r : Reach} {b0 : Nat} (hv : Value.okWide Try.prog w r b0 36 v) (h : DataW.Trod enc Try.prog w base (fun _ => true) held 36 v d p) :
    ∃ (V : Value) (ls : List Po) (key : List UInt8) (a m : Int), v = .agg #[V, .string ⟨key.toArray⟩, .int .i64 a, .int .i64 m] ∧ SP w V ls := by
  obtain ⟨cs, rfl, hsz⟩ := okWide_struct Try.underlying36 hv
  obtain ⟨fuel, hf⟩ := h
  obtain ⟨xs, n, _, _, _, hxl, hel⟩ := DataW.trod_struct Try.underlying36 hf
  simp only [Value.cells] at hel
  rw [cells_from] at hsz
  obtain ⟨L, rfl⟩ : ∃ L : List Value, cs = L.toArray := ⟨cs.toList, rfl⟩
  have hL : L.length = 4 := by simpa using hsz
  have g0 := hel 0 _ rfl
  have g1 := hel 1 _ rfl
  have g2 := hel 2 _ rfl
  have g3 := hel 3 _ rfl
  match L, hL with
  | [c0, c1, c2, c3], _ =>
    match xs, hxl with
    | [x0, x1, x2, x3], _ =>
      change DataW.trod enc Try.prog w base (fun _ => true) held _ 22 (([c0, c1, c2, c3].drop 0).take (Try.prog.cellsOf 22)) = some x0 at g0
      rw [cells_rows] at g0
      change DataW.trod enc Try.prog w base (fun _ => true) held _ 9 (([c0, c1, c2, c3].drop 1).take (Try.prog.cellsOf 9)) = some x1 at g1
      rw [cells_str] at g1
      change DataW.trod enc Try.prog w base (fun _ => true) held _ 3 (([c0, c1, c2, c3].drop 2).take (Try.prog.cellsOf 3)) = some x2 at g2
      rw [cells_int1] at g2
      change DataW.trod enc Try.prog w base (fun _ => true) held _ 3 (([c0, c1, c2, c3].drop 3).take (Try.prog.cellsOf 3)) = some x3 at g3
      rw [cells_int1] at g3
      obtain ⟨V, ls, e0, hS⟩ := trod_posts g0
      obtain ⟨s, e1, _, _⟩ := DataW.trod_string Try.underlying9 g1
      obtain ⟨a, e2, _, _⟩ := DataW.trod_int Try.underlying3 g2
      obtain ⟨m, e3, _, _⟩ := DataW.trod_int Try.underlying3 g3
      simp at e0 e1 e2 e3
      subst e0 e1 e2 e3
      exact ⟨c0, ls, s.data.toList, a, m, by rw [str_mk], hS⟩
end
end Go.Proofs.Ytkfpnilbjjkhgaa
