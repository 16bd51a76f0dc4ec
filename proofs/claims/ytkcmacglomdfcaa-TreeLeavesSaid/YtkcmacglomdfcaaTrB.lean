/-
  THE WALKS of the tree's New, Len and Add.
-/
import Derived.Test.YtkcmacglomdfcaaTrA
namespace Go.Proofs.Ytkcmacglomdfcaa
open Go.RowKit

theorem zero_int (w : World) : (zeroValue 3).run Try.prog w = .ok (.int .i64 0) w := by kernel_rfl
/-- What the map says of a digest. -/
def posF (ls : List Dg) (d : Dg) : Nat := if d ∈ ls then ls.idxOf d else 0
theorem look_tree {u : World} {mb n : Nat} {D : DataW Unit} {ls : List Dg} (h : u.ownsMap Try.prog 26 (plainElem Try.prog 3) mb n D) (hf : Fnd ls D) {d : Dg} (hd : d.length = 32) :
    (Instr.lookup 124 (.map (some mb)) (SumV d) true).run Try.prog u = .ok (.tuple #[.int .i64 (posF ls d : Nat), .bool (decide (d ∈ ls))]) u := by
  obtain ⟨v, ps, hrun, hv⟩ := h.look_ok sumKeyed Try.underlying124 (zero_int u) (plainElem_int Try.underlying3 (by decide)) (kd_of d hd)
  obtain ⟨c, rfl, hc, -⟩ := plainElem_int_inv Try.underlying3 hv
  have hc := congrArg Prod.fst hc
  simp only at hc
  rw [hrun, hf.has hd]
  by_cases hm : d ∈ ls
  · rw [(hf.all d hm).2] at hc
    have e : c = (ls.idxOf d : Nat) := by simpa using hc.symm
    rw [e, posF, if_pos hm]
  · have hh : Maps.has D (kd d) = false := by rw [hf.has hd]; exact decide_eq_false hm
    rw [Maps.atKey_of_not_has hh] at hc
    have e : c = 0 := by simpa using hc.symm
    rw [e, posF, if_neg hm]
    rfl
/-- New: a tree without leaves. -/
theorem new_any (w : World) : Calls Try.prog 43 #[] w fun e w' => e = .returned (.pointer (some ⟨w.heap.size + 1, 0, none⟩)) ∧ Below w.heap.size w w' ∧ Tr w.heap.size (w.heap.size + 1) w.heap.size (.slice none 0 0) [] [] 0 (.map []) w' := by
  have hmm := @run_makeMap Try.prog
  go_enter Try.func43, Try.ntmps43
  go_wp2
  go_ret
  refine ⟨by simp, ((Below.refl _ _).alloc (Nat.le_refl _) _).alloc (by simp) _, ⟨by omega, Nat.le_refl _, heap_alloc_at _ _ _ (by simp), World.ownsRow_nil _ _ _ _, fun k x r hx => by simp at hx, fun j k x y _ hx => by simp at hx, ?_⟩⟩
  exact map_of_block (World.ownsMap_made _ _ _ _) (Below.heap_alloc _ _ _ (by simp))
section
variable {B g mb : Nat} {V : Value} {us : List Value} {rows : List (List Dg)} {n : Nat} {D : DataW Unit} {u : World}
theorem Tr.c0 (h : Tr B g mb V us rows n D u) : u.cell? ⟨g, 0, none⟩ = some V := by rw [cell_of_row _ _ _ _ _ _ h.obj]; rfl
theorem Tr.c1 (h : Tr B g mb V us rows n D u) : u.cell? ⟨g, 1, none⟩ = some (.map (some mb)) := by rw [cell_of_row _ _ _ _ _ _ h.obj]; rfl
theorem Tr.f0 (h : Tr B g mb V us rows n D u) : u.frozen? ⟨g, 0, none⟩ = false := by simp [World.frozen?, h.obj]
/-- The levels' slice, and a level's cell. -/
theorem Tr.form (h : Tr B g mb V us rows n D u) : ∃ A c, V = .slice A rows.length c ∧ rows.length ≤ c ∧ (0 < rows.length → ∃ vb, A = some ⟨vb, 0, none⟩) ∧ ∀ vb, A = some ⟨vb, 0, none⟩ → ∀ (k : Nat) r, rows[k]? = some r → ∃ x, us[k]? = some x ∧ u.cell? ⟨vb, k, none⟩ = some x ∧ u.frozen? ⟨vb, k, none⟩ = false := by
  obtain ⟨A, c, rfl, hc, hcm, hf⟩ := own_formK h.own
  refine ⟨A, c, rfl, hc, fun h0 => ?_, fun vb hA k r hr => ?_⟩
  · obtain ⟨vb, hA, _⟩ := hf h0
    exact ⟨vb, hA⟩
  · have hk := (List.getElem?_eq_some_iff.1 hr).1
    subst hA
    have hx : us[k]? = some (us[k]'(by rw [h.len]; exact hk)) := List.getElem?_eq_getElem _
    refine ⟨_, hx, ?_, ?_⟩
    · obtain ⟨vb', hA', hb', hr', _⟩ := hf (by omega)
      cases hA'
      have := hr' k _ hx
      rwa [Nat.zero_add] at this
    · obtain ⟨cs, hcs⟩ := own_obj h.own (b := vb) rfl
      simp [World.frozen?, hcs]
end
def lenT : List (List Dg) → Nat
  | [] => 0
  | r :: _ => r.length
theorem lenT_tree {F : Dg → Dg} (ls : List Dg) : lenT (treeF F ls) = ls.length := by
  by_cases h : ls = []
  · subst h; rfl
  · obtain ⟨rs, hrs⟩ := treeF_head (F := F) ls h
    rw [hrs]; rfl
set_option maxRecDepth 100000 in
theorem len_any {B g mb : Nat} {V : Value} {us : List Value} {rows : List (List Dg)} {n : Nat} {D : DataW Unit} (u : World) (h : Tr B g mb V us rows n D u) :
    Calls Try.prog 48 #[.pointer (some ⟨g, 0, none⟩)] u fun e w' => e = .returned (.int .i64 (lenT rows : Nat)) ∧ u = w' := by
  have c0 := h.c0
  obtain ⟨A, c, rfl, hc, h0, hf⟩ := h.form
  cases rows with
  | nil =>
    simp only [List.length_nil] at c0 ⊢
    clear h hf h0
    go_enter Try.func48, Try.ntmps48
    go_wp2
    go_ret
    exact ⟨rfl, rfl⟩
  | cons r rs =>
    obtain ⟨vb, rfl⟩ := h0 (by simp)
    obtain ⟨x, hx, hcx, -⟩ := hf vb rfl 0 r rfl
    obtain ⟨⟨Ax, cx, rfl⟩, -, -⟩ := h.each 0 x r hx rfl
    obtain ⟨m, hm⟩ : ∃ m, m = (r :: rs).length := ⟨_, rfl⟩
    have hm0 : 0 < m := by rw [hm]; simp
    have hm1 : ((m : Int) == 0) = false := by rw [beq_eq_false_iff_ne]; omega
    have hm2 : (0 : Int) < (m : Int) := by omega
    rw [← hm] at c0
    obtain ⟨q, hq⟩ : ∃ q, q = r.length := ⟨_, rfl⟩
    rw [← hq] at hcx
    have hql : lenT (r :: rs) = q := by rw [hq]; rfl
    rw [hql]
    clear h hf h0 hx hm hq hql hc
    go_enter Try.func48, Try.ntmps48
    go_wp2
    go_ret
    exact ⟨rfl, rfl⟩
/-- In Add: the tree, the digest in its variable, all else as it was. -/
structure AddS (w : World) (B g mb : Nat) (V0 : Value) (us0 : List Value) (s : Nat) (V : Value) (us : List Value) (rows : List (List Dg)) (n : Nat) (D : DataW Unit) (d : Dg) (u : World) : Prop where
  tr : Tr B g mb V us rows n D u
  r3 : u.rangeAt s 0 (d.map B8)
  t3 : u.there s 0 32
  off : Off g mb V us s
  s : w.heap.size ≤ s
  d32 : d.length = 32
  env : u.os = w.os ∧ u.tape = w.tape ∧ u.output = w.output ∧ w.heap.size ≤ u.heap.size
  keep : ∀ b, b < w.heap.size → Off g mb V0 us0 b → u.heap[b]? = w.heap[b]? ∧ Off g mb V us b
section
variable {w : World} {B g mb : Nat} {V0 : Value} {us0 : List Value} {s : Nat} {V : Value} {us : List Value} {rows : List (List Dg)} {n : Nat} {D : DataW Unit} {d : Dg} {u u' : World}
theorem AddS.slt (h : AddS w B g mb V0 us0 s V us rows n D d u) : s < u.heap.size := there_lt h.t3 (by decide)
theorem AddS.stable (h : AddS w B g mb V0 us0 s V us rows n D d u) (hb : Below u.heap.size u u') : AddS w B g mb V0 us0 s V us rows n D d u' :=
  ⟨h.tr.stable hb, rangeAt_below' h.r3 hb, there_same h.t3 (hb.block _ h.slt), h.off, h.s, h.d32, ⟨hb.os.trans h.env.1, hb.tape.trans h.env.2.1, hb.output.trans h.env.2.2.1, Nat.le_trans h.env.2.2.2 hb.size⟩, fun b hlt ho => by
    obtain ⟨e1, e2⟩ := h.keep b hlt ho
    exact ⟨(hb.block b (Nat.lt_of_lt_of_le hlt h.env.2.2.2)).trans e1, e2⟩⟩
theorem AddS.envG (h : AddS w B g mb V0 us0 s V us rows n D d u) {row : Option Nat} (hg : u.grownBy u' row) : u'.os = w.os ∧ u'.tape = w.tape ∧ u'.output = w.output ∧ w.heap.size ≤ u'.heap.size :=
  ⟨hg.os.trans h.env.1, hg.tape.trans h.env.2.1, hg.output.trans h.env.2.2.1, Nat.le_trans h.env.2.2.2 hg.size⟩
theorem AddS.put (h : AddS w B g mb V0 us0 s V us rows n D d u) (hg : u.grownBy u' (some s)) {d' : Dg} (hr : u'.rangeAt s 0 (d'.map B8)) (ht : u'.there s 0 32) (hd : d'.length = 32) : AddS w B g mb V0 us0 s V us rows n D d' u' :=
  ⟨h.tr.put h.off hg, hr, ht, h.off, h.s, hd, h.envG hg, fun b hlt ho => by
    obtain ⟨e1, e2⟩ := h.keep b hlt ho
    exact ⟨(hg.block b (Nat.lt_of_lt_of_le hlt h.env.2.2.2) (fun e => by cases e; have := h.s; omega)).trans e1, e2⟩⟩
theorem AddS.grow (h : AddS w B g mb V0 us0 s V us rows n D d u) {k : Nat} {x : Value} {r : List Dg} (hx : us[k]? = some x) (hr : rows[k]? = some r) (hg : u.grownBy u' x.ownBlock) (hk : u'.ownsRow B 26 32 x r.length (r.flatten.map B8)) : AddS w B g mb V0 us0 s V us rows n D d u' :=
  ⟨h.tr.grow hx hr hg hk, range_grown h.r3 hg (h.off.2.2.2 k x hx), there_grownB h.t3 (by decide) hg (h.off.2.2.2 k x hx), h.off, h.s, h.d32, h.envG hg, fun b hlt ho => by
    obtain ⟨e1, e2⟩ := h.keep b hlt ho
    exact ⟨(hg.block b (Nat.lt_of_lt_of_le hlt h.env.2.2.2) (fun e => e2.2.2.2 k x hx e.symm)).trans e1, e2⟩⟩
/-- A block that came up later. -/
def New (w : World) (g mb : Nat) (V : Value) (us : List Value) (s nb : Nat) : Prop := Off g mb V us nb ∧ nb ≠ s ∧ w.heap.size ≤ nb
theorem AddS.fresh (h : AddS w B g mb V0 us0 s V us rows n D d u) {nb : Nat} (hn : u.heap.size ≤ nb) : New w g mb V us s nb := ⟨h.tr.off hn, by have := h.slt; omega, Nat.le_trans h.env.2.2.2 hn⟩
theorem AddS.setLevel {vb cV : Nat} (h : AddS w B g mb V0 us0 s (.slice (some ⟨vb, 0, none⟩) rows.length cV) us rows n D d u) {k : Nat} {x : Value} (hk : us[k]? = some x) {x' : Value} {r' : List Dg} (hx : ∃ A c, x' = .slice A r'.length c) (ho : u.ownsRow B 26 32 x' r'.length (r'.flatten.map B8)) (h32 : ∀ d ∈ r', d.length = 32)
    (hv : x'.ownBlock = x.ownBlock ∨ ∃ nb, x'.ownBlock = some nb ∧ New w g mb (.slice (some ⟨vb, 0, none⟩) rows.length cV) us s nb) : AddS w B g mb V0 us0 s (.slice (some ⟨vb, 0, none⟩) rows.length cV) (us.set k x') (rows.set k r') n D d (u.setCell ⟨vb, k, none⟩ x') := by
  have hkl : k < rows.length := by rw [← h.tr.len]; exact (List.getElem?_eq_some_iff.1 hk).1
  have hoff : ∀ b, Off g mb (.slice (some ⟨vb, 0, none⟩) rows.length cV) us b → (∀ nb, x'.ownBlock = some nb → New w g mb (.slice (some ⟨vb, 0, none⟩) rows.length cV) us s nb → nb ≠ b) → Off g mb (.slice (some ⟨vb, 0, none⟩) rows.length cV) (us.set k x') b := fun b hb hn => by
    refine ⟨hb.1, hb.2.1, hb.2.2.1, fun j y hy => ?_⟩
    by_cases hjk : j = k
    · subst hjk
      rw [List.getElem?_set_self (by rw [h.tr.len]; exact hkl)] at hy
      cases hy
      rcases hv with hv | ⟨nb, hv, hnew⟩
      · rw [hv]; exact hb.2.2.2 j x hk
      · rw [hv]; intro e; cases e; exact hn _ hv hnew rfl
    · rw [List.getElem?_set_ne (fun e => hjk e.symm)] at hy
      exact hb.2.2.2 j y hy
  have hvs : vb ≠ s := fun e => h.off.2.2.1 (by rw [e]; rfl)
  refine ⟨h.tr.setLevel hkl hx ho h32 (fun j y hjk hy => ?_), fun j v hv => ?_, there_same h.t3 (heap_setCell_ne u k x' (fun e => hvs e.symm)), hoff s h.off (fun nb _ hn => hn.2.1), h.s, h.d32, ⟨h.env.1, h.env.2.1, h.env.2.2.1, by rw [size_setCell]; exact h.env.2.2.2⟩, fun b hlt hb => ?_⟩
  · rcases hv with hv | ⟨nb, hv, hnew⟩
    · rw [hv]; exact h.tr.sep j k y x hjk hy hk
    · cases hb : y.ownBlock with
      | none => exact .inl rfl
      | some b => exact .inr (by rw [hv]; intro e; cases e; exact hnew.1.2.2.2 j y hy hb)
  · rw [World.cell?_of_block (w := u) (a := ⟨s, 0 + j, none⟩) (heap_setCell_ne u k x' (fun e => hvs e.symm))]
    exact h.r3 j v hv
  · obtain ⟨e1, e2⟩ := h.keep b hlt hb
    refine ⟨(heap_setCell_ne u k x' (fun e => e2.2.2.1 (by rw [e]; rfl))).trans e1, hoff b e2 (fun nb _ hn => by have := hn.2.2; omega)⟩
theorem AddS.setLevel' {vb cV m : Nat} (hm : m = rows.length) (h : AddS w B g mb V0 us0 s (.slice (some ⟨vb, 0, none⟩) m cV) us rows n D d u) {k : Nat} {x : Value} (hk : us[k]? = some x) {x' : Value} {r' : List Dg} (hx : ∃ A c, x' = .slice A r'.length c) (ho : u.ownsRow B 26 32 x' r'.length (r'.flatten.map B8)) (h32 : ∀ d ∈ r', d.length = 32)
    (hv : x'.ownBlock = x.ownBlock ∨ ∃ nb, x'.ownBlock = some nb ∧ New w g mb (.slice (some ⟨vb, 0, none⟩) m cV) us s nb) : AddS w B g mb V0 us0 s (.slice (some ⟨vb, 0, none⟩) m cV) (us.set k x') (rows.set k r') n D d (u.setCell ⟨vb, k, none⟩ x') := by
  subst hm
  exact h.setLevel hk hx ho h32 hv
theorem AddS.newLevel (h : AddS w B g mb V0 us0 s V us rows n D d u) (hg : u.grownBy u' V.ownBlock) {V' : Value} (hn : u'.ownsRow B 42 1 V' (rows.length + 1) (us ++ [.slice none 0 0])) (hv : V'.ownBlock = V.ownBlock ∨ ∃ nb, V'.ownBlock = some nb ∧ New w g mb V us s nb) :
    AddS w B g mb V0 us0 s V' (us ++ [.slice none 0 0]) (rows ++ [[]]) n D d (u'.setCell ⟨g, 0, none⟩ V') := by
  have hoff : ∀ b, Off g mb V us b → (∀ nb, V'.ownBlock = some nb → New w g mb V us s nb → nb ≠ b) → Off g mb V' (us ++ [.slice none 0 0]) b := fun b hb hn => by
    refine ⟨hb.1, hb.2.1, ?_, fun j y hy => ?_⟩
    · rcases hv with hv | ⟨nb, hv, hnew⟩
      · rw [hv]; exact hb.2.2.1
      · rw [hv]; intro e; cases e; exact hn _ hv hnew rfl
    · by_cases hk : j < us.length
      · rw [List.getElem?_append_left hk] at hy; exact hb.2.2.2 j y hy
      · rw [List.getElem?_append_right (by omega)] at hy
        have hm := List.mem_of_getElem? hy
        simp at hm
        subst hm
        simp [Value.ownBlock]
  have hgs : s ≠ g := h.off.1
  refine ⟨h.tr.newLevel hg hn ?_, fun j v hj => ?_, there_same (there_grownB h.t3 (by decide) hg h.off.2.2.1) (heap_setCell_ne u' 0 V' hgs), hoff s h.off (fun nb _ hn => hn.2.1), h.s, h.d32, by rw [size_setCell]; exact h.envG hg, fun b hlt hb => ?_⟩
  · rcases hv with hv | ⟨nb, hv, hnew⟩
    · exact .inl hv
    · exact .inr ⟨nb, hv, hnew.1⟩
  · rw [World.cell?_of_block (w := u') (a := ⟨s, 0 + j, none⟩) (heap_setCell_ne u' 0 V' hgs)]
    exact range_grown h.r3 hg h.off.2.2.1 j v hj
  · obtain ⟨e1, e2⟩ := h.keep b hlt hb
    exact ⟨((heap_setCell_ne u' 0 V' e2.1).trans (hg.block b (Nat.lt_of_lt_of_le hlt h.env.2.2.2) (fun e => e2.2.2.1 e.symm))).trans e1, hoff b e2 (fun nb _ hn => by have := hn.2.2; omega)⟩
theorem AddS.mapped (h : AddS w B g mb V0 us0 s V us rows n D d u) (hg : u.grownBy u' (some mb)) {n' : Nat} {D' : DataW Unit} (hm : u'.ownsMap Try.prog 26 (plainElem Try.prog 3) mb n' D') : AddS w B g mb V0 us0 s V us rows n' D' d u' :=
  ⟨h.tr.mapped hg hm, range_grown h.r3 hg (fun e => h.off.2.1 (by cases e; rfl)), there_grownB h.t3 (by decide) hg (fun e => h.off.2.1 (by cases e; rfl)), h.off, h.s, h.d32, h.envG hg, fun b hlt ho => by
    obtain ⟨e1, e2⟩ := h.keep b hlt ho
    exact ⟨(hg.block b (Nat.lt_of_lt_of_le hlt h.env.2.2.2) (fun e => e2.2.1 (by cases e; rfl))).trans e1, e2⟩⟩
theorem AddS.start (h : Tr B g mb V us rows n D w) (hd : d.length = 32) : AddS w B g mb V us w.heap.size V us rows n D d (w.alloc (.cells (d.map B8).toArray 26)) := by
  have hb : Below w.heap.size w (w.alloc (.cells (d.map B8).toArray 26)) := (Below.refl _ _).alloc (Nat.le_refl _) _
  exact ⟨h.stable hb, rangeAt_at _ _ _ _ _ rfl, there_new' _ _ _ (by simp [hd]), h.off (Nat.le_refl _), Nat.le_refl _, hd, ⟨hb.os, hb.tape, hb.output, hb.size⟩, fun b hlt ho => ⟨hb.block b hlt, ho⟩⟩
end
end Go.Proofs.Ytkcmacglomdfcaa
