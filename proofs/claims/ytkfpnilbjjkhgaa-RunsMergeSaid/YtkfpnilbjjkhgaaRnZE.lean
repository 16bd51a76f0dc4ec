/-
  ROWS OF ROWS OF POSTS THAT CAME IN.
-/
import Derived.Test.YtkfpnilbjjkhgaaRnZ
import Derived.Test.YtkfpnilbjjkhgaaOpen
namespace Go.Proofs.Ytkfpnilbjjkhgaa
open Go.ChangeShapes Go.WideShapes Go.ChangeAt Go.RowKit

/-- A slice of slices of posts. -/
def SPs (w : World) (v : Value) (lss : List (List Po)) : Prop := ∃ A n c vs, v = .slice A n c ∧ n ≤ c ∧ c ≤ maxLen ∧ RV w A n vs ∧ lss.length = n ∧ ∀ (i : Nat) u ls, vs[i]? = some u → lss[i]? = some ls → SP w u ls
section
variable {H : Type} {enc : TypeId × Value → H} {w : World} {base : Nat} {held : Bool}
theorem cells_row22 : Try.prog.cellsOf 22 = 1 := by kernel_rfl
set_option maxRecDepth 100000 in
theorem open_postss {v : Value} {d : DataW H} {p : List MemPlace} {r : Reach} {b0 : Nat} (hv : Value.okWide Try.prog w r b0 39 v) (h : DataW.Trod enc Try.prog w base (fun _ => true) held 39 v d p) : ∃ lss, SPs w v lss := by
  obtain ⟨a, len, cap, rfl⟩ := okWide_slice Try.underlying39 hv
  obtain ⟨fuel, hf⟩ := h
  rcases Go.Deep.open_slice Try.underlying39 hf with ⟨hcs, hx⟩ | ⟨a', len', cap', m, n, D, Pl, hcs, _, hl, hm, hmm, hx, hel⟩
  · simp [Value.cells] at hcs
    obtain ⟨rfl, rfl, rfl⟩ := hcs
    exact ⟨[], none, 0, 0, [], rfl, Nat.le_refl _, Nat.zero_le _, ⟨rfl, fun h0 => absurd h0 (by omega)⟩, rfl, fun k u bs hu => by simp at hu⟩
  · simp [Value.cells] at hcs
    obtain ⟨rfl, rfl, rfl⟩ := hcs
    rw [if_pos rfl] at hmm
    subst hmm
    have key : ∀ i, i < len → ∃ u ls, w.cell? (a'.add i) = some u ∧ SP w u ls := by
      intro i hi
      obtain ⟨cs', hcs', htr⟩ := hel i (by omega)
      obtain ⟨u, ls, rfl, hs⟩ := trod_posts htr
      rw [cells_row22, Nat.mul_one] at hcs'
      obtain ⟨_, _, hat⟩ := World.cells?_some hcs'
      have h0 := hat (i := 0) (by omega)
      have e0 : ∀ q : Addr, q.add 0 = q := fun q => by simp [Addr.add]
      rw [e0] at h0
      exact ⟨u, ls, h0, hs⟩
    have hlist : ∀ k, k ≤ len → ∃ (vs : List Value) (ps : List (List Po)), vs.length = k ∧ ps.length = k ∧ (∀ i u, vs[i]? = some u → w.cell? (a'.add i) = some u) ∧ ∀ (i : Nat) u ls, vs[i]? = some u → ps[i]? = some ls → SP w u ls := by
      intro k
      induction k with
      | zero => intro _; exact ⟨[], [], rfl, rfl, fun i u hu => by simp at hu, fun i u bs hu => by simp at hu⟩
      | succ k ih =>
        intro hk
        obtain ⟨vs, ps, h1, h2, h3, h4⟩ := ih (by omega)
        obtain ⟨u, bs, hu, hs⟩ := key k (by omega)
        refine ⟨vs ++ [u], ps ++ [bs], by simp [h1], by simp [h2], fun i x hx => ?_, fun i x y hx hy => ?_⟩
        · by_cases hi : i < vs.length
          · rw [List.getElem?_append_left hi] at hx; exact h3 i x hx
          · have hlt := (List.getElem?_eq_some_iff.1 hx).1
            simp at hlt
            obtain rfl : i = k := by omega
            rw [List.getElem?_append_right (by omega), h1] at hx
            simp at hx
            subst hx
            exact hu
        · by_cases hi : i < vs.length
          · rw [List.getElem?_append_left hi] at hx
            rw [List.getElem?_append_left (by omega)] at hy
            exact h4 i x y hx hy
          · have hlt := (List.getElem?_eq_some_iff.1 hx).1
            simp at hlt
            obtain rfl : i = k := by omega
            rw [List.getElem?_append_right (by omega), h1] at hx
            rw [List.getElem?_append_right (by omega), h2] at hy
            simp at hx hy
            subst hx
            subst hy
            exact hs
    obtain ⟨vs, ps, h1, h2, h3, h4⟩ := hlist len (Nat.le_refl _)
    refine ⟨ps, _, len, _, vs, rfl, hl, hm, ⟨h1, fun hn => ?_⟩, h2, h4⟩
    have hv0 : vs[0]? = some (vs[0]'(by omega)) := List.getElem?_eq_getElem (by omega)
    have h0 := h3 0 _ hv0
    obtain ⟨b, off, spot⟩ := a'
    have hs : spot = none := by simpa [Addr.add] using World.cell?_spot h0
    subst hs
    refine ⟨b, off, rfl, fun j u hu => ?_⟩
    rw [← Addr.add_mid]
    exact h3 j u hu
end
end Go.Proofs.Ytkfpnilbjjkhgaa
