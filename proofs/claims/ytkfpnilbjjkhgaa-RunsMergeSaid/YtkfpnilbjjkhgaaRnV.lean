/-
  POSTS THAT CAME IN: a row of them; rows of rows.
-/
import Derived.Test.YtkfpnilbjjkhgaaRnU
import Derived.Test.YtkfpnilbjjkhgaaOpen
namespace Go.Proofs.Ytkfpnilbjjkhgaa
open Go.ChangeShapes Go.WideShapes Go.ChangeAt Go.RowKit

/-- A value that is a slice of posts, and reads as ls. -/
def SP (w : World) (v : Value) (ls : List Po) : Prop := ∃ A n c, v = .slice A n c ∧ n ≤ c ∧ c ≤ maxLen ∧ RP w A n ls
theorem SP.below {w w' : World} {v : Value} {ls : List Po} (h : SP w v ls) (hb : Below w.heap.size w w') : SP w' v ls := by
  obtain ⟨A, n, c, rfl, h1, h2, h3⟩ := h
  exact ⟨A, n, c, rfl, h1, h2, h3.below hb⟩
section
variable {H : Type} {enc : TypeId × Value → H} {w : World} {base : Nat} {held : Bool}
theorem cells_po : Try.prog.cellsOf 32 = 2 := by kernel_rfl
theorem cells_str : Try.prog.cellsOf 9 = 1 := by kernel_rfl
theorem cells_int1 : Try.prog.cellsOf 3 = 1 := by kernel_rfl
theorem str_mk (s : ByteArray) : (Value.string s) = .string ⟨s.data.toList.toArray⟩ := by simp
set_option maxRecDepth 100000 in
theorem trod_post {fuel : Nat} {cs : List Value} {x : DataW H × List MemPlace} (h : DataW.trod enc Try.prog w base (fun _ => true) held fuel 32 cs = some x) : ∃ p : Po, cs = encP p := by
  obtain ⟨xs, n, _, _, hl, hxl, hel⟩ := DataW.trod_struct Try.underlying32 h
  rw [cells_po] at hl
  have g0 := hel 0 _ rfl
  have g1 := hel 1 _ rfl
  match cs, hl with
  | [a, b], _ =>
    match xs, hxl with
    | [x0, x1], _ =>
      change DataW.trod enc Try.prog w base (fun _ => true) held _ 9 (([a, b].drop 0).take (Try.prog.cellsOf 9)) = some x0 at g0
      rw [cells_str] at g0
      change DataW.trod enc Try.prog w base (fun _ => true) held _ 3 (([a, b].drop 1).take (Try.prog.cellsOf 3)) = some x1 at g1
      rw [cells_int1] at g1
      obtain ⟨s, e0, _, _⟩ := DataW.trod_string Try.underlying9 g0
      obtain ⟨i, e1, _, _⟩ := DataW.trod_int Try.underlying3 g1
      simp at e0 e1
      subst e0 e1
      exact ⟨(s.data.toList, i), by rw [str_mk]; rfl⟩
set_option maxRecDepth 100000 in
theorem trod_posts {fuel : Nat} {cs : List Value} {x : DataW H × List MemPlace} (h : DataW.trod enc Try.prog w base (fun _ => true) held fuel 22 cs = some x) : ∃ v ls, cs = [v] ∧ SP w v ls := by
  rcases Go.Deep.open_slice Try.underlying22 h with ⟨hcs, hx⟩ | ⟨a, len, cap, m, n, D, Pl, hcs, _, hl, hm, hmm, hx, hel⟩
  · exact ⟨_, [], hcs, none, 0, 0, rfl, Nat.le_refl _, Nat.zero_le _, rfl, fun h0 => absurd h0 (by omega)⟩
  · rw [if_pos rfl] at hmm
    subst hmm
    rw [cells_po] at hel
    by_cases h0 : len = 0
    · subst h0
      exact ⟨_, [], hcs, _, 0, _, rfl, Nat.zero_le _, hm, rfl, fun h0 => absurd h0 (by omega)⟩
    · obtain ⟨b, off, spot⟩ := a
      have hs : spot = none := by
        obtain ⟨cs', hcs', htr⟩ := hel 0 (by omega)
        obtain ⟨p, rfl⟩ := trod_post htr
        obtain ⟨_, _, hat⟩ := World.cells?_some hcs'
        have h1 := hat 0 (by omega)
        rw [show (encP p)[0]? = some (.string ⟨p.1.toArray⟩) from rfl] at h1
        simpa [Addr.add] using World.cell?_spot h1
      subst hs
      have key : ∀ k, k ≤ len → ∃ ls : List Po, ls.length = k ∧ ∀ i p, ls[i]? = some p → ∀ j v, (encP p)[j]? = some v → w.cell? ⟨b, off + (i * 2 + j), none⟩ = some v := by
        intro k
        induction k with
        | zero => intro _; exact ⟨[], rfl, fun i p hp => by simp at hp⟩
        | succ k ih =>
          intro hk
          obtain ⟨ls, h1, h2⟩ := ih (by omega)
          obtain ⟨cs', hcs', htr⟩ := hel k (by omega)
          obtain ⟨p, rfl⟩ := trod_post htr
          obtain ⟨_, _, hat⟩ := World.cells?_some hcs'
          refine ⟨ls ++ [p], by simp [h1], fun i q hq j v hv => ?_⟩
          by_cases hi : i < ls.length
          · rw [List.getElem?_append_left hi] at hq
            exact h2 i q hq j v hv
          · have hlt := (List.getElem?_eq_some_iff.1 hq).1
            simp at hlt
            obtain rfl : i = k := by omega
            rw [List.getElem?_append_right (by omega), h1] at hq
            simp at hq
            subst hq
            have hj := (List.getElem?_eq_some_iff.1 hv).1
            have h3 := hat j (by simpa [encP] using hj)
            rw [hv, Addr.add_mid, Addr.add_mid] at h3
            rw [← h3, Nat.add_assoc]
      obtain ⟨ls, h1, h2⟩ := key len (Nat.le_refl _)
      refine ⟨_, ls, hcs, some ⟨b, off, none⟩, len, _, rfl, hl, hm, h1, fun hn => ⟨b, off, rfl, fun j v hv => ?_⟩⟩
      have hj : j < ls.length * 2 := by have := (List.getElem?_eq_some_iff.1 hv).1; rwa [flatP_len] at this
      obtain ⟨p, hp, he⟩ := flatP_at ls j hj
      rw [he] at hv
      have h5 := h2 _ p hp _ v hv
      rwa [show j / 2 * 2 + j % 2 = j by omega] at h5
set_option maxRecDepth 100000 in
theorem open_posts {v : Value} {d : DataW H} {p : List MemPlace} {r : Reach} {b0 : Nat} (hv : Value.okWide Try.prog w r b0 22 v) (h : DataW.Trod enc Try.prog w base (fun _ => true) held 22 v d p) : ∃ ls, SP w v ls := by
  obtain ⟨a, len, cap, rfl⟩ := okWide_slice Try.underlying22 hv
  obtain ⟨fuel, hf⟩ := h
  obtain ⟨v', ls, hcs, hs⟩ := trod_posts hf
  simp [Value.cells] at hcs
  subst hcs
  exact ⟨ls, hs⟩
end
end Go.Proofs.Ytkfpnilbjjkhgaa
