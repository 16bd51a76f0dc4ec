/-
  THE WALKS of SortFunc and Clone at posts.
-/
import Derived.Test.YtkfpnilbjjkhgaaRnA
import Derived.Lib.OwnBridge
namespace Go.Proofs.Ytkfpnilbjjkhgaa
open Go.RowKit Go.Lib Go.Sort

theorem own_put_all {w : World} {B : Nat} {e : TypeId} {s g n cap q : Nat} {xs ys : List Value} (h : w.ownsRow B e s (.slice (some ⟨g, 0, none⟩) n cap) n xs) (hy : ys.length = xs.length) :
    (putRow id (Sort.ahead w q) g 0 ys.toArray).ownsRow B e s (.slice (some ⟨g, 0, none⟩) n cap) n ys := by
  have hl := h.1
  rcases h.2 with ⟨e0, _⟩ | ⟨g', cap', cur, e0, hb, hg, hn, hm, hs, ht⟩
  · cases e0
  · injection e0 with e1 _ e3
    injection e1 with e1
    injection e1 with e1
    subst e1; subst e3
    have hcs : n * s ≤ cur.size := by rw [hs]; exact Nat.mul_le_mul_right _ hn
    refine ⟨by omega, .inr ⟨g, cap, putCells id 0 ys.toArray cur, rfl, hb, ?_, by omega, hm, by simpa [putCells] using hs, ?_⟩⟩
    · simp [putRow, mapBlock, Sort.ahead, Array.getElem?_modify, hg, onCells]
    · apply List.ext_getElem?
      intro j
      rw [List.getElem?_take, Array.getElem?_toList]
      by_cases hj : j < n * s
      · have hjc : j < cur.size := by omega
        simp only [if_pos hj, putCells, Array.getElem?_mapIdx, Array.getElem?_eq_getElem hjc, Option.map_some]
        rw [if_pos (by simp; omega), List.getElem?_eq_getElem (by omega)]
        simp [getElem!_pos, show j < ys.length by omega]
      · rw [if_neg hj, List.getElem?_eq_none (by omega)]
theorem flatP_at : ∀ (ls : List Po) (j : Nat), j < ls.length * 2 → ∃ p, ls[j / 2]? = some p ∧ (flatP ls)[j]? = (encP p)[j % 2]?
  | [], j, h => by simp at h
  | p :: r, 0, _ => ⟨p, rfl, rfl⟩
  | p :: r, 1, _ => ⟨p, rfl, rfl⟩
  | p :: r, j + 2, h => by
    obtain ⟨q, h1, h2⟩ := flatP_at r j (by rw [List.length_cons] at h; omega)
    refine ⟨q, ?_, ?_⟩
    · rw [show (j + 2) / 2 = j / 2 + 1 by omega, List.getElem?_cons_succ]; exact h1
    · rw [show (j + 2) % 2 = j % 2 by omega, ← h2]
      rfl
theorem flatK_posts (ls : List Po) : flatK encP 2 ls.toArray = (flatP ls).toArray := by
  apply Array.ext
  · rw [size_flatK, List.size_toArray, List.size_toArray, flatP_len]
  · intro j h1 h2
    have hj : j < ls.length * 2 := by simpa using h1
    obtain ⟨p, hp, he⟩ := flatP_at ls j hj
    have e1 : (flatK encP 2 ls.toArray)[j] = (flatK encP 2 ls.toArray)[j]! := (getElem!_pos (flatK encP 2 ls.toArray) j h1).symm
    rw [e1, get_flatK _ _ _ _ (by simpa using hj)]
    have hpl : j / 2 < ls.length := (List.getElem?_eq_some_iff.1 hp).1
    have e2 : (ls.toArray)[j / 2]! = p := by
      rw [getElem!_pos ls.toArray (j / 2) (by simpa using hpl)]
      rw [List.getElem?_eq_getElem hpl] at hp
      cases hp
      simp
    have hm : j % 2 < (encP p).length := by rw [encP_len]; omega
    rw [e2, getElem!_pos (encP p) (j % 2) hm]
    rw [List.getElem?_eq_getElem hm, List.getElem?_eq_getElem (by simpa using h2)] at he
    have he' := Option.some.inj he
    simpa using he'.symm
/-- A row of posts that is there. -/
def RP (w : World) (A : Option Addr) (n : Nat) (ls : List Po) : Prop := ls.length = n ∧ (0 < n → ∃ b o, A = some ⟨b, o, none⟩ ∧ w.rangeAt b o (flatP ls))
theorem RP.below {w w' : World} {A : Option Addr} {n : Nat} {ls : List Po} (h : RP w A n ls) (hb : Below w.heap.size w w') : RP w' A n ls :=
  ⟨h.1, fun h0 => by
    obtain ⟨b, o, hA, hr⟩ := h.2 h0
    exact ⟨b, o, hA, rangeAt_below' hr hb⟩⟩
theorem RP.rc {w : World} {A : Option Addr} {n : Nat} {ls : List Po} (h : RP w A n ls) : RC w A (flatP ls) := fun hne => by
  refine h.2 ?_
  rcases Nat.eq_zero_or_pos n with h0 | h0
  · exfalso
    apply hne
    have : ls = [] := List.eq_nil_of_length_eq_zero (by rw [h.1, h0])
    rw [this]; rfl
  · exact h0
theorem RP.of_own {w : World} {B : Nat} {e : TypeId} {A : Option Addr} {n c : Nat} {ls : List Po} (h : w.ownsRow B e 2 (.slice A n c) n (flatP ls)) : RP w A n ls := by
  have hl := h.1
  rw [flatP_len] at hl
  refine ⟨by omega, fun h0 => ?_⟩
  obtain ⟨A0, c0, e0, -, -, hf⟩ := own_formK h
  cases e0
  obtain ⟨g, rfl, -, hr, -⟩ := hf h0
  exact ⟨g, 0, rfl, hr⟩
/-- One post of a row. -/
theorem range_post {w : World} {b : Nat} : ∀ (ls : List Po) (o : Nat), w.rangeAt b o (flatP ls) → ∀ i p, ls[i]? = some p → w.rangeAt b (o + i * 2) (encP p)
  | [], o, _, i, p, h => by simp at h
  | q :: r, o, h, 0, p, hp => fun j v hv => by
    cases hp
    have hj : j < (encP q).length := (List.getElem?_eq_some_iff.1 hv).1
    have := h j v (by rw [flatP, List.flatMap_cons, List.getElem?_append_left hj]; exact hv)
    simpa using this
  | q :: r, o, h, i + 1, p, hp => by
    have h2 : w.rangeAt b (o + 2) (flatP r) := fun j v hv => by
      have := h (2 + j) v (by rw [flatP, List.flatMap_cons, List.getElem?_append_right (by rw [encP_len]; omega), encP_len]; rw [show 2 + j - 2 = j by omega]; exact hv)
      rwa [show o + 2 + j = o + (2 + j) by omega]
    have h3 := range_post r (o + 2) h2 i p hp
    rwa [show o + 2 + i * 2 = o + (i + 1) * 2 by omega] at h3
theorem RP.at_ {w : World} {A : Option Addr} {n i : Nat} {ls : List Po} (h : RP w A n ls) (hi : i < n) : ∃ b o p, A = some ⟨b, o, none⟩ ∧ ls[i]? = some p ∧ w.rangeAt b (o + i * 2) (encP p) ∧ w.cell? ⟨b, o + i * 2, none⟩ = some (.string ⟨p.1.toArray⟩) ∧ w.cell? ⟨b, o + i * 2 + 1, none⟩ = some (.int .i64 p.2) := by
  obtain ⟨b, o, hA, hr⟩ := h.2 (by omega)
  have hp : ls[i]? = some (ls[i]'(by rw [h.1]; exact hi)) := List.getElem?_eq_getElem _
  have h3 := range_post ls o hr i _ hp
  exact ⟨b, o, _, hA, hp, h3, by simpa using h3 0 _ rfl, by simpa using h3 1 _ rfl⟩
set_option maxHeartbeats 1000000 in
theorem sort_any (w : World) (B : Nat) (A : Option Addr) (n c : Nat) (ls : List Po) (hown : w.ownsRow B 31 2 (.slice A n c) n (flatP ls)) (hn : n ≤ 1000000) :
    Calls Try.prog 22 #[.slice A n c, .func (.func 23) #[] #[]] w fun e w' => e = .returned (.tuple #[]) ∧ w'.ownsRow B 31 2 (.slice A n c) n (flatP (sortF ls)) ∧ ∀ W, Below B W w → Below B W w' := by
  have hl : ls.length = n := (RP.of_own hown).1
  by_cases h0 : n = 0
  · subst h0
    have hls : ls = [] := List.eq_nil_of_length_eq_zero hl
    subst hls
    refine (AnyF.slices_SortFunc_none (L := { sortPost with }) A c (.func (.func 23) #[] #[]) w).mono ?_
    rintro e w' ⟨he, rfl⟩
    exact ⟨he, by rw [show sortF [] = [] from by simp [sortF]]; exact hown, fun W h => h⟩
  · obtain ⟨A0, c0, e0, -, -, hf⟩ := own_formK hown
    cases e0
    obtain ⟨g, rfl, -, hr, hBg⟩ := hf (by omega)
    subst hl
    obtain ⟨cs, hh⟩ := own_obj hown (b := g) rfl
    have hH : HoldsK encP 2 w g 0 ls.toArray := by
      intro j hj
      refine ⟨?_, frozen_blk hh _⟩
      have hj' : j < (flatK encP 2 ls.toArray).size := hj
      rw [getElem!_pos (flatK encP 2 ls.toArray) j hj']
      have e := flatK_posts ls
      have h2 : (flatP ls)[j]? = some ((flatK encP 2 ls.toArray)[j]) := by
        have h3 : (flatP ls).toArray[j]? = some ((flatK encP 2 ls.toArray)[j]) := by rw [← e]; exact Array.getElem?_eq_getElem hj'
        simpa using h3
      exact hr j _ h2
    have eg : ∀ args w, (callFunc 23 args).run Try.prog w = .ok (.enter 23 args) w := enters_of Try.func23 (by kernel_rfl) rfl
    have h := AnyQ.slices_SortFunc_total sortPost 2 Try.isAgg31 Try.sizeOf31 encP encP_len encP_one cmpP swoP 23 #[] g 0 c ls.toArray w eg (fun m os dk _ x y => cmp_any x y _) hH (Array.getElem?_eq_some_iff.1 hh).1 (by simp; omega) totP
    rw [List.size_toArray] at h
    refine h.mono fun e w' ⟨he, m, os, hw⟩ => ⟨he, ?_, fun W hb => ?_⟩
    · rw [hw]
      unfold sortWorldK putRowK
      rw [show (List.mergeSort ls.toArray.toList fun x y => !(ltOf cmpP) y x) = sortF ls from rfl, flatK_posts]
      have h1 := own_put_all (q := m) (ys := flatP (sortF ls)) hown (by rw [flatP_len, flatP_len, sortF, List.length_mergeSort])
      exact own_of_block h1 fun b hb => heap_grow_old _ _ (h1.lt b hb).2
    · rw [hw]
      unfold sortWorldK putRowK
      have h1 := Lib.below_putRow (enc := id) (q := m) (d := flatK encP 2 (List.mergeSort ls.toArray.toList fun x y => !(ltOf cmpP) y x).toArray) hb hBg
      exact ⟨h1.os, h1.tape, h1.output, Nat.le_trans h1.size (by show _ ≤ (_ ++ os).size; rw [Array.size_append]; omega), fun k hk => (heap_grow_old _ os (by have := (hown.lt g rfl).2; simp [putRow, mapBlock, Sort.ahead]; omega)).trans (h1.block k hk)⟩
theorem clone_posts (w : World) (A : Option Addr) (n c : Nat) (ls : List Po) (h : RP w A n ls) (hn : n ≤ 1000000) (hnc : n ≤ c) :
    Calls Try.prog 21 #[.slice A n c] w fun e w' => ∃ A' c', e = .returned (.slice A' n c') ∧ w'.ownsRow w.heap.size 31 2 (.slice A' n c') n (flatP ls) ∧ Below w.heap.size w w' := by
  have hlen := h.1
  have hml : (flatP ls).length = n * 2 := by rw [flatP_len, hlen]
  have Hml := Lib.hid hml
  cases A with
  | none =>
    have h0 : n = 0 := by
      rcases Nat.eq_zero_or_pos n with h0 | h0
      · exact h0
      · obtain ⟨b, o, hA, -⟩ := h.2 h0
        cases hA
    subst h0
    have hk := Lib.run_eql_slice_nil (P := Try.prog) w 25 31 none 0 c 0 0 Try.underlying25
    have hls : ls = [] := List.eq_nil_of_length_eq_zero hlen
    subst hls
    clear h hlen hml
    go_enter Try.func21, Try.ntmps21
    go_wp2
    go_ret
    exact ⟨none, 0, rfl, World.ownsRow_nil _ _ _ _, Below.refl _ _⟩
  | some ad =>
    have hk := Lib.run_eql_slice_nil (P := Try.prog) w 25 31 (some ad) n c 0 0 Try.underlying25
    have H := Lib.hid h
    clear h hlen hml
    go_enter Try.func21, Try.ntmps21
    go_wp2_with (at_builtin; refine wpList_append_row rfl (.tmp 5) (.tmp 6) 25 rfl w ((Below.refl _ _).alloc (Nat.le_refl _) _) Try.underlying25 info_post3 rfl (by decide) (.slice (some ⟨w.heap.size, 0, none⟩) 0 0) 0 [] rfl (ownsRow_empty w _ _ (Nat.le_refl _)) (some ad) n c (flatP ls) rfl ((H.out.below ((Below.refl _ _).alloc (Nat.le_refl _) _)).rc) Hml.out (flatP_one _) (by unfold maxLen; omega) (by omega) ?_; intro v2 w2 hown hb2; rw [List.nil_append, Nat.zero_add] at hown; obtain ⟨A2, c2, rfl, -, -, -⟩ := own_formK hown; have H2 := Lib.hid (And.intro hown hb2); clear hown hb2)
    go_ret
    exact ⟨_, _, rfl, H2.out.1, H2.out.2⟩
end Go.Proofs.Ytkfpnilbjjkhgaa
