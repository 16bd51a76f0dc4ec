/-
  WHAT CAME IN, OPENED: a row of bytes, a row of rows of bytes, over any program.
-/
import Derived.Test.YtkfpnilbjjkhgaaBase
import Derived.ProofKit
import Derived.OpenShut
import Derived.Deep.Slices
namespace Go.Proofs.Ytkfpnilbjjkhgaa
open Go.ChangeShapes Go.WideShapes Go.ChangeAt Go.RowKit

/-- How long the datum of a slice is. -/
def SliceLen {H : Type} (d : DataW H) (n : Nat) : Prop := (d = .nil ∧ n = 0) ∨ ∃ el sp, d = .slice el sp ∧ el.length = n

section
variable {H : Type} {enc : TypeId × Value → H} {P : Program} {w : World} {base : Nat} {held : Bool}

theorem b8_of_wf {z : Int} (h : (Lit.int .u8 z).wf = true) : B8 (UInt8.ofNat z.toNat) = .int .u8 z := by
  have hb := bounds_u8 h
  have h2 : z.toNat < 256 := by omega
  simp only [B8, UInt8.toNat_ofNat', Nat.reducePow, Nat.mod_eq_of_lt h2]
  congr 1
  omega
theorem trod_sb {t e : TypeId} {fuel : Nat} {cs : List Value} {x : DataW H × List MemPlace} (ht : P.underlying t = some (.slice e)) (he : P.underlying e = some (.int .u8)) (hc : P.cellsOf e = 1)
    (h : DataW.trod enc P w base (fun _ => true) held fuel t cs = some x) : ∃ v bs, cs = [v] ∧ SB w v bs ∧ SliceLen x.1 bs.length := by
  rcases open_ints ht he hc h with ⟨hcs, hx⟩ | ⟨a, len, cap, zs, hcs, _, hl, hm, hz, hx, hcell, hwz⟩
  · exact ⟨_, [], hcs, ⟨none, 0, 0, rfl, Nat.le_refl _, Nat.zero_le _, RB.nil _ _⟩, .inl ⟨by rw [hx], rfl⟩⟩
  · rw [if_pos rfl] at hz
    have hlen : ((zs.take len).map fun z => UInt8.ofNat z.toNat).length = len := by simp [hz, hl]
    refine ⟨_, (zs.take len).map fun z => UInt8.ofNat z.toNat, hcs, ?_, .inr ⟨_, _, by rw [hx], by rw [hlen]; simp [lits, hz, hl]⟩⟩
    refine ⟨_, len, cap, rfl, hl, hm, by simp [hz, hl], fun hn => ?_⟩
    have h0 := hcell 0 (by omega)
    obtain ⟨b, off, spot⟩ := a
    have hs : spot = none := by simpa [Addr.add] using World.cell?_spot h0
    subst hs
    refine ⟨b, off, rfl, fun j u hu => ?_⟩
    have hj : j < len := by
      have := (List.getElem?_eq_some_iff.1 hu).1
      simp [hz, hl] at this
      omega
    have hjz : j < zs.length := by omega
    have hcj := hcell j hjz
    rw [Addr.add_mid] at hcj
    rw [hcj]
    simp only [List.getElem?_map, List.getElem?_take, hj, if_true, List.getElem?_eq_getElem hjz, Option.map_some, Option.some.injEq] at hu
    rw [← hu, b8_of_wf (hwz _ (List.getElem_mem hjz))]
    simp [hjz]
theorem open_sb {t e : TypeId} {v : Value} {d : DataW H} {p : List MemPlace} {r : Reach} {b0 : Nat} (ht : P.underlying t = some (.slice e)) (he : P.underlying e = some (.int .u8)) (hc : P.cellsOf e = 1)
    (hv : Value.okWide P w r b0 t v) (h : DataW.Trod enc P w base (fun _ => true) held t v d p) : ∃ bs, SB w v bs ∧ SliceLen d bs.length := by
  obtain ⟨a, len, cap, rfl⟩ := okWide_slice ht hv
  obtain ⟨fuel, hf⟩ := h
  obtain ⟨v', bs, hcs, hs, hl⟩ := trod_sb ht he hc hf
  simp [Value.cells] at hcs
  subst hcs
  exact ⟨bs, hs, hl⟩
theorem open_sbs {t t' e : TypeId} {v : Value} {d : DataW H} {p : List MemPlace} {r : Reach} {b0 : Nat} (ht : P.underlying t = some (.slice t')) (ht' : P.underlying t' = some (.slice e)) (hc' : P.cellsOf t' = 1) (he : P.underlying e = some (.int .u8)) (hc : P.cellsOf e = 1)
    (hv : Value.okWide P w r b0 t v) (h : DataW.Trod enc P w base (fun _ => true) held t v d p) : ∃ ps, SBs w v ps ∧ SliceLen d ps.length := by
  obtain ⟨a, len, cap, rfl⟩ := okWide_slice ht hv
  obtain ⟨fuel, hf⟩ := h
  rcases Go.Deep.open_slice ht hf with ⟨hcs, hx⟩ | ⟨a', len', cap', m, n, D, Pl, hcs, _, hl, hm, hmm, hx, hel⟩
  · simp [Value.cells] at hcs
    obtain ⟨rfl, rfl, rfl⟩ := hcs
    simp only [Prod.mk.injEq] at hx
    exact ⟨[], ⟨[], ⟨none, 0, 0, rfl, Nat.le_refl _, Nat.zero_le _, RV.nil _ _⟩, rfl, fun k u bs hu => by simp at hu⟩, .inl ⟨hx.1, rfl⟩⟩
  · simp [Value.cells] at hcs
    obtain ⟨rfl, rfl, rfl⟩ := hcs
    rw [if_pos rfl] at hmm
    subst hmm
    have key : ∀ i, i < len → ∃ u bs, w.cell? (a'.add i) = some u ∧ SB w u bs := by
      intro i hi
      obtain ⟨cs', hcs', htr⟩ := hel i (by omega)
      obtain ⟨u, bs, rfl, hs, _⟩ := trod_sb ht' he hc htr
      rw [hc', Nat.mul_one] at hcs'
      obtain ⟨_, _, hat⟩ := World.cells?_some hcs'
      have h0 := hat (i := 0) (by omega)
      have e0 : ∀ q : Addr, q.add 0 = q := fun q => by simp [Addr.add]
      rw [e0] at h0
      exact ⟨u, bs, h0, hs⟩
    have hlist : ∀ k, k ≤ len → ∃ (vs : List Value) (ps : List (List UInt8)), vs.length = k ∧ ps.length = k ∧ (∀ i u, vs[i]? = some u → w.cell? (a'.add i) = some u) ∧ ∀ (i : Nat) u bs, vs[i]? = some u → ps[i]? = some bs → SB w u bs := by
      intro k
      induction k with
      | zero => intro _; exact ⟨[], [], rfl, rfl, fun i u hu => by simp at hu, fun i u bs hu => by simp at hu⟩
      | succ k ih =>
        intro hk
        obtain ⟨vs, ps, h1, h2, h3, h4⟩ := ih (by omega)
        obtain ⟨u, bs, hu, hs⟩ := key k (by omega)
        refine ⟨vs ++ [u], ps ++ [bs], by simp [h1], by simp [h2], fun i x hx => ?_, fun i x y hx hy => ?_⟩
        · by_cases hi : i < vs.length
          · rw [List.getElem?_append_left hi] at hx; exact h3 i x hx
          · have hlt := (List.getElem?_eq_some_iff.1 hx).1
            simp at hlt
            obtain rfl : i = k := by omega
            rw [List.getElem?_append_right (by omega), h1] at hx
            simp at hx
            subst hx
            exact hu
        · by_cases hi : i < vs.length
          · rw [List.getElem?_append_left hi] at hx
            rw [List.getElem?_append_left (by omega)] at hy
            exact h4 i x y hx hy
          · have hlt := (List.getElem?_eq_some_iff.1 hx).1
            simp at hlt
            obtain rfl : i = k := by omega
            rw [List.getElem?_append_right (by omega), h1] at hx
            rw [List.getElem?_append_right (by omega), h2] at hy
            simp at hx hy
            subst hx
            subst hy
            exact hs
    obtain ⟨vs, ps, h1, h2, h3, h4⟩ := hlist len (Nat.le_refl _)
    simp only [Prod.mk.injEq] at hx
    refine ⟨ps, ⟨vs, ⟨_, len, _, rfl, hl, hm, h1, fun hn => ?_⟩, by rw [h1, h2], h4⟩, .inr ⟨_, _, hx.1, by simp [h2]⟩⟩
    have hv0 : vs[0]? = some (vs[0]'(by omega)) := List.getElem?_eq_getElem (by omega)
    have h0 := h3 0 _ hv0
    obtain ⟨b, off, spot⟩ := a'
    have hs : spot = none := by simpa [Addr.add] using World.cell?_spot h0
    subst hs
    refine ⟨b, off, rfl, fun j u hu => ?_⟩
    rw [← Addr.add_mid]
    exact h3 j u hu
end
end Go.Proofs.Ytkfpnilbjjkhgaa
