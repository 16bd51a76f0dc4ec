/-
  THE TREE IN MEMORY: plain rows of levels; what the heap holds.
-/
import Derived.Test.YtkcmacglomdfcaaPhA
import Derived.Test.YtkcmacglomdfcaaTxC
namespace Go.Proofs.Ytkcmacglomdfcaa
open Go.RowKit

/-! ### Plainly -/
section
variable (F : Dg → Dg)
/-- A leaf more: the levels. -/
def addL : List (List Dg) → Dg → List (List Dg)
  | [], x => [[x]]
  | r :: rs, x => if r.length % 2 = 0 then (r ++ [x]) :: rs else (r ++ [x]) :: addL rs (nodeF F (r.getLastD []) x)
def treeF (ls : List Dg) : List (List Dg) := ls.foldl (addL F) []
end
section
variable {F : Dg → Dg}
theorem treeF_snoc (ls : List Dg) (x : Dg) : treeF F (ls ++ [x]) = addL F (treeF F ls) x := by simp [treeF, List.foldl_append]
theorem treeF_nil : treeF F [] = [] := rfl
theorem addL_cons (r : List Dg) (rs : List (List Dg)) (x : Dg) : ∃ rs', addL F (r :: rs) x = (r ++ [x]) :: rs' := by
  rw [addL]
  split
  · exact ⟨_, rfl⟩
  · exact ⟨_, rfl⟩
theorem snoc_ind {α : Type} {P : List α → Prop} (h0 : P []) (h1 : ∀ l x, P l → P (l ++ [x])) : ∀ l, P l := fun l => by
  have h : ∀ l : List α, P l.reverse := fun l => by
    induction l with
    | nil => exact h0
    | cons x l ih => rw [List.reverse_cons]; exact h1 _ _ ih
  have := h l.reverse
  rwa [List.reverse_reverse] at this
theorem treeF_head (ls : List Dg) : ls ≠ [] → ∃ rs, treeF F ls = ls :: rs := by
  refine snoc_ind (P := fun ls => ls ≠ [] → ∃ rs, treeF F ls = ls :: rs) (fun h => absurd rfl h) (fun l x ih _ => ?_) ls
  rw [treeF_snoc]
  by_cases hl : l = []
  · subst hl
    exact ⟨[], rfl⟩
  · obtain ⟨rs, hrs⟩ := ih hl
    rw [hrs]
    exact addL_cons l rs x
theorem addL_bounds : ∀ (rows : List (List Dg)) (x : Dg) (N : Nat), (∀ r ∈ rows, r.length ≤ N) → (addL F rows x).length ≤ rows.length + 1 ∧ ∀ r ∈ addL F rows x, r.length ≤ N + 1
  | [], x, N, _ => ⟨by simp [addL], fun r hr => by simp [addL] at hr; subst hr; simp⟩
  | r :: rs, x, N, h => by
    have h1 := h r (by simp)
    have h2 : ∀ q ∈ rs, q.length ≤ N := fun q hq => h q (by simp [hq])
    rw [addL]
    split
    · refine ⟨by simp, fun q hq => ?_⟩
      rcases List.mem_cons.1 hq with rfl | hq
      · simp; exact h1
      · have := h2 q hq; omega
    · obtain ⟨h3, h4⟩ := addL_bounds rs (nodeF F (r.getLastD []) x) N h2
      refine ⟨by rw [List.length_cons, List.length_cons]; omega, fun q hq => ?_⟩
      rcases List.mem_cons.1 hq with rfl | hq
      · simp; exact h1
      · exact h4 q hq
theorem treeF_bounds (ls : List Dg) : (treeF F ls).length ≤ ls.length ∧ ∀ r ∈ treeF F ls, r.length ≤ ls.length := by
  refine snoc_ind (P := fun ls => (treeF F ls).length ≤ ls.length ∧ ∀ r ∈ treeF F ls, r.length ≤ ls.length) ⟨by simp [treeF], fun r hr => by simp [treeF] at hr⟩ (fun l x ih => ?_) ls
  rw [treeF_snoc, List.length_append]
  obtain ⟨h1, h2⟩ := addL_bounds (F := F) (treeF F l) x l.length ih.2
  exact ⟨by simp; omega, fun r hr => by simpa using h2 r hr⟩
theorem addL_32 (hF : ∀ t, (F t).length = 32) : ∀ (rows : List (List Dg)) (x : Dg), (∀ r ∈ rows, ∀ d ∈ r, d.length = 32) → x.length = 32 → ∀ r ∈ addL F rows x, ∀ d ∈ r, d.length = 32
  | [], x, _, hx => fun r hr d hd => by simp [addL] at hr; subst hr; simp at hd; subst hd; exact hx
  | r :: rs, x, h, hx => by
    have h1 : ∀ d ∈ r ++ [x], d.length = 32 := fun d hd => by
      rcases List.mem_append.1 hd with hd | hd
      · exact h r (by simp) d hd
      · simp at hd; subst hd; exact hx
    have h2 : ∀ q ∈ rs, ∀ d ∈ q, d.length = 32 := fun q hq => h q (by simp [hq])
    rw [addL]
    split
    · intro q hq
      rcases List.mem_cons.1 hq with rfl | hq
      · exact h1
      · exact h2 q hq
    · intro q hq
      rcases List.mem_cons.1 hq with rfl | hq
      · exact h1
      · exact addL_32 hF rs _ h2 (hF _) q hq
end

/-! ### The map -/
/-- Where each leaf stands first. -/
structure Fnd (ls : List Dg) (D : DataW Unit) : Prop where
  isMap : Maps.IsMap D
  all : ∀ d : Dg, d ∈ ls → Maps.has D (kd d) = true ∧ ∀ z, D.atKey (kd d) z = .lit (.int .i64 (ls.idxOf d : Nat))
  only : ∀ d : Dg, d.length = 32 → Maps.has D (kd d) = true → d ∈ ls
theorem Fnd.nil : Fnd [] (.map []) := ⟨⟨[], rfl⟩, fun d hd => by simp at hd, fun d hd h => by simp [Maps.has_eq] at h⟩
theorem Fnd.has {ls : List Dg} {D : DataW Unit} (h : Fnd ls D) {d : Dg} (hd : d.length = 32) : Maps.has D (kd d) = decide (d ∈ ls) := by
  cases hh : Maps.has D (kd d) with
  | true => exact (decide_eq_true (h.only d hd hh)).symm
  | false =>
    refine (decide_eq_false fun hm => ?_).symm
    rw [(h.all d hm).1] at hh
    cases hh
theorem Fnd.same {ls : List Dg} {D : DataW Unit} (h : Fnd ls D) {d : Dg} (hd : d ∈ ls) : Fnd (ls ++ [d]) D := by
  refine ⟨h.isMap, fun x hx => ?_, fun x hx hh => by simp [h.only x hx hh]⟩
  have hx' : x ∈ ls := by
    rcases List.mem_append.1 hx with hx | hx
    · exact hx
    · simp at hx; subst hx; exact hd
  rw [List.idxOf_append, if_pos hx']
  exact h.all x hx'
theorem Fnd.snoc {ls : List Dg} {D : DataW Unit} (h : Fnd ls D) (h32 : ∀ x ∈ ls, x.length = 32) {d : Dg} (hd : d.length = 32) (hn : d ∉ ls) : Fnd (ls ++ [d]) (D.put (kd d) (.lit (.int .i64 (ls.length : Nat)))) := by
  have hk := kd_key d hd
  refine ⟨h.isMap.put _ _, fun x hx => ?_, fun x hx hh => ?_⟩
  · by_cases e : x = d
    · subst e
      rw [List.idxOf_append, if_neg hn]
      refine ⟨Maps.has_put_same h.isMap hk _, fun z => ?_⟩
      rw [Maps.atKey_put_same h.isMap hk _ z]
      simp
    · have hx' : x ∈ ls := by
        rcases List.mem_append.1 hx with hx | hx
        · exact hx
        · simp at hx; exact absurd hx e
      have hne : kd x ≠ kd d := fun e' => e (kd_inj (h32 x hx') hd e')
      rw [Maps.has_put_other hne, List.idxOf_append, if_pos hx']
      exact ⟨(h.all x hx').1, fun z => by rw [Maps.atKey_put_other hne]; exact (h.all x hx').2 z⟩
  · by_cases e : x = d
    · simp [e]
    · have hne : kd x ≠ kd d := fun e' => e (kd_inj hx hd e')
      rw [Maps.has_put_other hne] at hh
      simp [h.only x hx hh]

/-! ### The heap -/
theorem heap_setCell_eq {u : World} {g : Nat} {cs : Array Value} {t : TypeId} {fr : Nat × Nat} (h : u.heap[g]? = some (.cells cs t fr)) (o : Nat) (v : Value) : (u.setCell ⟨g, o, none⟩ v).heap[g]? = some (.cells (cs.setIfInBounds o v) t fr) := by
  simp [World.setCell, Array.getElem?_modify, h]
theorem heap_setCell_ne (u : World) {g b : Nat} (o : Nat) (v : Value) (h : b ≠ g) : (u.setCell ⟨g, o, none⟩ v).heap[b]? = u.heap[b]? := Below.heap_setCell u ⟨g, o, none⟩ v b h
theorem size_setCell (u : World) (a : Addr) (v : Value) : (u.setCell a v).heap.size = u.heap.size := by simp [World.setCell]
theorem own_setCell_eq {u : World} {B vb m cV k : Nat} {e : TypeId} {us : List Value} {x : Value} (h : u.ownsRow B e 1 (.slice (some ⟨vb, 0, none⟩) m cV) m us) : (u.setCell ⟨vb, k, none⟩ x).ownsRow B e 1 (.slice (some ⟨vb, 0, none⟩) m cV) m (us.set k x) := by
  refine ⟨by rw [List.length_set]; exact h.1, ?_⟩
  rcases h.2 with ⟨h1, _⟩ | ⟨g, cap, cur, h1, hB, hh, hnc, hcm, hsz, htake⟩
  · cases h1
  · injection h1 with e1 _ e3
    injection e1 with e1
    injection e1 with e1
    subst e1
    subst e3
    refine .inr ⟨vb, cV, cur.setIfInBounds k x, rfl, hB, heap_setCell_eq hh k x, hnc, hcm, by simpa using hsz, ?_⟩
    rw [Array.toList_setIfInBounds, List.take_set, htake]
theorem own_of_block {u u' : World} {B s n : Nat} {e : TypeId} {v : Value} {xs : List Value} (h : u.ownsRow B e s v n xs) (hb : ∀ b, v.ownBlock = some b → u'.heap[b]? = u.heap[b]?) : u'.ownsRow B e s v n xs := by
  refine ⟨h.1, ?_⟩
  rcases h.2 with ⟨h1, h2⟩ | ⟨g, cap, cur, rfl, hB, hh, r⟩
  · exact .inl ⟨h1, h2⟩
  · exact .inr ⟨g, cap, cur, rfl, hB, (hb g rfl).trans hh, r⟩
theorem own_obj {u : World} {B s n : Nat} {e : TypeId} {v : Value} {xs : List Value} (h : u.ownsRow B e s v n xs) {b : Nat} (hb : v.ownBlock = some b) : ∃ cs, u.heap[b]? = some (.cells cs e (0, 0)) := by
  rcases h.2 with ⟨rfl, _⟩ | ⟨g, cap, cur, rfl, hB, hh, r⟩
  · simp [Value.ownBlock] at hb
  · simp [Value.ownBlock] at hb
    subst hb
    exact ⟨_, hh⟩
theorem map_of_block {H : Type} {u u' : World} {P : Program} {k : TypeId} {R : Value → Option (DataW H × List MemPlace)} {b n : Nat} {D : DataW H} (h : u.ownsMap P k R b n D) (hb : u'.heap[b]? = u.heap[b]?) : u'.ownsMap P k R b n D := by
  obtain ⟨es, clock, h1, h2⟩ := h
  exact ⟨es, clock, hb.trans h1, h2⟩
theorem map_obj {H : Type} {u : World} {P : Program} {k : TypeId} {R : Value → Option (DataW H × List MemPlace)} {b n : Nat} {D : DataW H} (h : u.ownsMap P k R b n D) : ∃ es c, u.heap[b]? = some (.map es c) := by
  obtain ⟨es, clock, h1, _⟩ := h
  exact ⟨_, _, h1⟩
abbrev TreeT : TypeId := 127
/-- A tree: its object, its levels, its map. -/
structure Tr (B g mb : Nat) (V : Value) (us : List Value) (rows : List (List Dg)) (n : Nat) (D : DataW Unit) (u : World) : Prop where
  gB : B ≤ g
  mB : B ≤ mb
  obj : u.heap[g]? = some (.cells #[V, .map (some mb)] TreeT (0, 0))
  own : u.ownsRow B 42 1 V rows.length us
  each : ∀ (k : Nat) x r, us[k]? = some x → rows[k]? = some r → (∃ A c, x = .slice A r.length c) ∧ u.ownsRow B 26 32 x r.length (r.flatten.map B8) ∧ ∀ d ∈ r, d.length = 32
  sep : ∀ (j k : Nat) x y, j ≠ k → us[j]? = some x → us[k]? = some y → x.ownBlock = none ∨ x.ownBlock ≠ y.ownBlock
  map : u.ownsMap Try.prog 26 (plainElem Try.prog 3) mb n D
/-- A block that is none of the tree's. -/
def Off (g mb : Nat) (V : Value) (us : List Value) (b : Nat) : Prop := b ≠ g ∧ b ≠ mb ∧ V.ownBlock ≠ some b ∧ ∀ (k : Nat) x, us[k]? = some x → x.ownBlock ≠ some b
section
variable {B g mb : Nat} {V : Value} {us : List Value} {rows : List (List Dg)} {n : Nat} {D : DataW Unit} {u u' : World}
theorem Tr.len (h : Tr B g mb V us rows n D u) : us.length = rows.length := by have := h.own.1; omega
theorem Tr.row (h : Tr B g mb V us rows n D u) {k : Nat} {x : Value} (hx : us[k]? = some x) : ∃ r, rows[k]? = some r := by
  have hk := (List.getElem?_eq_some_iff.1 hx).1
  exact ⟨_, List.getElem?_eq_getElem (by rw [← h.len]; exact hk)⟩
/-- The tree's blocks: none is another one. -/
theorem Tr.apart (h : Tr B g mb V us rows n D u) : g ≠ mb ∧ V.ownBlock ≠ some g ∧ V.ownBlock ≠ some mb ∧ ∀ (k : Nat) x, us[k]? = some x → x.ownBlock ≠ some g ∧ x.ownBlock ≠ some mb ∧ (x.ownBlock = none ∨ x.ownBlock ≠ V.ownBlock) := by
  obtain ⟨es, c, hm⟩ := map_obj h.map
  refine ⟨fun e => ?_, fun e => ?_, fun e => ?_, fun k x hx => ?_⟩
  · rw [← e, h.obj] at hm; cases hm
  · obtain ⟨cs, h1⟩ := own_obj h.own e
    rw [h.obj] at h1
    injection h1 with h1
    injection h1 with _ h1 _
    exact absurd h1 (by decide)
  · obtain ⟨cs, h1⟩ := own_obj h.own e
    rw [hm] at h1; cases h1
  · obtain ⟨r, hr⟩ := h.row hx
    obtain ⟨_, ho, _⟩ := h.each k x r hx hr
    refine ⟨fun e => ?_, fun e => ?_, ?_⟩
    · obtain ⟨cs, h1⟩ := own_obj ho e
      rw [h.obj] at h1
      injection h1 with h1
      injection h1 with _ h1 _
      exact absurd h1 (by decide)
    · obtain ⟨cs, h1⟩ := own_obj ho e
      rw [hm] at h1; cases h1
    · cases hb : x.ownBlock with
      | none => exact .inl rfl
      | some b =>
        refine .inr fun e => ?_
        obtain ⟨cs, h1⟩ := own_obj ho hb
        obtain ⟨cs', h2⟩ := own_obj h.own e.symm
        rw [h1] at h2
        injection h2 with h2
        injection h2 with _ h2 _
        exact absurd h2 (by decide)
theorem Tr.lt (h : Tr B g mb V us rows n D u) : g < u.heap.size ∧ mb < u.heap.size ∧ (∀ b, V.ownBlock = some b → b < u.heap.size) ∧ ∀ (k : Nat) x b, us[k]? = some x → x.ownBlock = some b → b < u.heap.size := by
  obtain ⟨es, c, hm⟩ := map_obj h.map
  have hlt : ∀ {b : Nat} {o : Obj}, u.heap[b]? = some o → b < u.heap.size := fun h => (Array.getElem?_eq_some_iff.1 h).1
  refine ⟨hlt h.obj, hlt hm, fun b hb => ?_, fun k x b hx hb => ?_⟩
  · obtain ⟨cs, h1⟩ := own_obj h.own hb
    exact hlt h1
  · obtain ⟨r, hr⟩ := h.row hx
    obtain ⟨cs, h1⟩ := own_obj (h.each k x r hx hr).2.1 hb
    exact hlt h1
theorem Tr.off (h : Tr B g mb V us rows n D u) {b : Nat} (hb : u.heap.size ≤ b) : Off g mb V us b := by
  obtain ⟨h1, h2, h3, h4⟩ := h.lt
  exact ⟨by omega, by omega, fun e => by have := h3 b e; omega, fun k x hx e => by have := h4 k x b hx e; omega⟩
theorem Tr.offB (h : Tr B g mb V us rows n D u) {b : Nat} (hb : b < B) : Off g mb V us b := by
  refine ⟨by have := h.gB; omega, by have := h.mB; omega, fun e => by have := (h.own.lt b e).1; omega, fun k x hx e => ?_⟩
  obtain ⟨r, hr⟩ := h.row hx
  have := ((h.each k x r hx hr).2.1.lt b e).1
  omega
/-- The tree's blocks stay: so does the tree. -/
theorem Tr.of_blocks (h : Tr B g mb V us rows n D u) (hg : u'.heap[g]? = u.heap[g]?) (hm : u'.heap[mb]? = u.heap[mb]?) (hV : ∀ b, V.ownBlock = some b → u'.heap[b]? = u.heap[b]?) (hx : ∀ (k : Nat) x b, us[k]? = some x → x.ownBlock = some b → u'.heap[b]? = u.heap[b]?) : Tr B g mb V us rows n D u' :=
  ⟨h.gB, h.mB, hg.trans h.obj, own_of_block h.own hV, fun k x r h1 h2 => by
    obtain ⟨e1, e2, e3⟩ := h.each k x r h1 h2
    exact ⟨e1, own_of_block e2 (hx k x · h1), e3⟩, h.sep, map_of_block h.map hm⟩
theorem Tr.stable (h : Tr B g mb V us rows n D u) (hb : Below u.heap.size u u') : Tr B g mb V us rows n D u' := by
  obtain ⟨h1, h2, h3, h4⟩ := h.lt
  exact h.of_blocks (hb.block _ h1) (hb.block _ h2) (fun b e => hb.block _ (h3 b e)) (fun k x b hx e => hb.block _ (h4 k x b hx e))
/-- A block off the tree is written. -/
theorem Tr.put (h : Tr B g mb V us rows n D u) {b : Nat} (ho : Off g mb V us b) (hg : u.grownBy u' (some b)) : Tr B g mb V us rows n D u' := by
  obtain ⟨h1, h2, h3, h4⟩ := h.lt
  refine h.of_blocks (hg.block _ h1 (fun e => ho.1 ?_)) (hg.block _ h2 (fun e => ho.2.1 ?_)) (fun c e => hg.block _ (h3 c e) (fun e' => ho.2.2.1 ?_)) (fun k x c hx e => hg.block _ (h4 k x c hx e) (fun e' => ho.2.2.2 k x hx ?_))
  · cases e; rfl
  · cases e; rfl
  · rw [e, ← e']
  · rw [e, ← e']
/-- One level's block grows. -/
theorem Tr.grow (h : Tr B g mb V us rows n D u) {k : Nat} {x : Value} {r : List Dg} (hx : us[k]? = some x) (hr : rows[k]? = some r) (hg : u.grownBy u' x.ownBlock) (hk : u'.ownsRow B 26 32 x r.length (r.flatten.map B8)) : Tr B g mb V us rows n D u' := by
  obtain ⟨h1, h2, h3, h4⟩ := h.lt
  obtain ⟨a1, a2, a3, a4⟩ := h.apart
  obtain ⟨b1, b2, b3⟩ := a4 k x hx
  refine ⟨h.gB, h.mB, (hg.block _ h1 (fun e => b1 e.symm)).trans h.obj, own_of_block h.own (fun b e => hg.block _ (h3 b e) (fun e' => ?_)), fun j y q hy hq => ?_, h.sep, map_of_block h.map (hg.block _ h2 (fun e => b2 e.symm))⟩
  · rcases b3 with b3 | b3
    · rw [b3] at e'; cases e'
    · exact b3 (by rw [← e', e])
  · by_cases hjk : j = k
    · subst hjk
      rw [hx] at hy
      rw [hr] at hq
      cases hy
      cases hq
      exact ⟨(h.each j x r hx hr).1, hk, (h.each j x r hx hr).2.2⟩
    · obtain ⟨e1, e2, e3⟩ := h.each j y q hy hq
      refine ⟨e1, own_of_block e2 (fun b e => hg.block _ (h4 j y b hy e) (fun e' => ?_)), e3⟩
      rcases h.sep j k y x hjk hy hx with s | s
      · rw [s] at e; cases e
      · exact s (by rw [e, ← e'])
/-- A level is put down. -/
theorem Tr.setLevel {vb cV : Nat} (h : Tr B g mb (.slice (some ⟨vb, 0, none⟩) rows.length cV) us rows n D u) {k : Nat} (hk : k < rows.length) {x' : Value} {r' : List Dg} (hx : ∃ A c, x' = .slice A r'.length c) (ho : u.ownsRow B 26 32 x' r'.length (r'.flatten.map B8)) (h32 : ∀ d ∈ r', d.length = 32)
    (hs : ∀ (j : Nat) y, j ≠ k → us[j]? = some y → (y.ownBlock = none ∨ y.ownBlock ≠ x'.ownBlock)) : Tr B g mb (.slice (some ⟨vb, 0, none⟩) rows.length cV) (us.set k x') (rows.set k r') n D (u.setCell ⟨vb, k, none⟩ x') := by
  obtain ⟨a1, a2, a3, a4⟩ := h.apart
  have hgv : g ≠ vb := fun e => a2 (by rw [e]; rfl)
  have hmv : mb ≠ vb := fun e => a3 (by rw [e]; rfl)
  obtain ⟨cs, hvb⟩ := own_obj h.own (b := vb) rfl
  have hsum : ∀ {y : Value} {q : Nat} {xs : List Value}, u.ownsRow B 26 32 y q xs → (u.setCell ⟨vb, k, none⟩ x').ownsRow B 26 32 y q xs := fun hy => own_of_block hy fun b e => heap_setCell_ne u k x' (fun e' => by
    subst e'
    obtain ⟨cs', h2⟩ := own_obj hy e
    rw [hvb] at h2
    injection h2 with h2
    injection h2 with _ h2 _
    exact absurd h2 (by decide))
  refine ⟨h.gB, h.mB, (heap_setCell_ne u k x' hgv).trans h.obj, by rw [List.length_set]; exact own_setCell_eq h.own, fun j y q hy hq => ?_, fun i j y z hij hy hz => ?_, map_of_block h.map (heap_setCell_ne u k x' hmv)⟩
  · by_cases hjk : j = k
    · subst hjk
      rw [List.getElem?_set_self (by rw [h.len]; exact hk)] at hy
      rw [List.getElem?_set_self hk] at hq
      cases hy
      cases hq
      exact ⟨hx, hsum ho, h32⟩
    · rw [List.getElem?_set_ne (fun e => hjk e.symm)] at hy hq
      obtain ⟨e1, e2, e3⟩ := h.each j y q hy hq
      exact ⟨e1, hsum e2, e3⟩
  · by_cases hik : i = k
    · subst hik
      rw [List.getElem?_set_self (by rw [h.len]; exact hk)] at hy
      rw [List.getElem?_set_ne hij] at hz
      cases hy
      rcases hs j z (fun e => hij e.symm) hz with s | s
      · cases hb : x'.ownBlock with
        | none => exact .inl rfl
        | some b => exact .inr (by rw [s]; simp)
      · exact .inr (fun e => s e.symm)
    · rw [List.getElem?_set_ne (fun e => hik e.symm)] at hy
      by_cases hjk : j = k
      · subst hjk
        rw [List.getElem?_set_self (by rw [h.len]; exact hk)] at hz
        cases hz
        exact hs i y hik hy
      · rw [List.getElem?_set_ne (fun e => hjk e.symm)] at hz
        exact h.sep i j y z hij hy hz
/-- A level more. -/
theorem Tr.newLevel (h : Tr B g mb V us rows n D u) (hg : u.grownBy u' V.ownBlock) {V' : Value} (hn : u'.ownsRow B 42 1 V' (rows.length + 1) (us ++ [.slice none 0 0])) (hv : V'.ownBlock = V.ownBlock ∨ ∃ nb, V'.ownBlock = some nb ∧ Off g mb V us nb) :
    Tr B g mb V' (us ++ [.slice none 0 0]) (rows ++ [[]]) n D (u'.setCell ⟨g, 0, none⟩ V') := by
  obtain ⟨h1, h2, h3, h4⟩ := h.lt
  obtain ⟨a1, a2, a3, a4⟩ := h.apart
  have ho : u'.heap[g]? = some (.cells #[V, .map (some mb)] TreeT (0, 0)) := (hg.block _ h1 (fun e => a2 e.symm)).trans h.obj
  have hV' : V'.ownBlock ≠ some g := by
    rcases hv with hv | ⟨nb, hv, hof⟩
    · rw [hv]; exact a2
    · rw [hv]; intro e; cases e; exact hof.1 rfl
  have hmap : u'.heap[mb]? = u.heap[mb]? := hg.block _ h2 (fun e => a3 e.symm)
  have hsum : ∀ (k : Nat) (y : Value) b, us[k]? = some y → y.ownBlock = some b → (u'.setCell ⟨g, 0, none⟩ V').heap[b]? = u.heap[b]? := fun k y b hy e => by
    obtain ⟨b1, b2, b3⟩ := a4 k y hy
    rw [heap_setCell_ne u' 0 V' (fun e' => b1 (by rw [e, e']))]
    refine hg.block _ (h4 k y b hy e) (fun e' => ?_)
    rcases b3 with b3 | b3
    · rw [b3] at e; cases e
    · exact b3 (by rw [e, ← e'])
  refine ⟨h.gB, h.mB, by rw [heap_setCell_eq ho]; rfl, ?_, fun k y q hy hq => ?_, fun i j y z hij hy hz => ?_, map_of_block h.map ((heap_setCell_ne u' 0 V' (fun e => a1 e.symm)).trans hmap)⟩
  · rw [List.length_append]
    exact own_of_block hn fun b e => heap_setCell_ne u' 0 V' (fun e' => hV' (by rw [e, e']))
  · by_cases hk : k < us.length
    · rw [List.getElem?_append_left hk] at hy
      rw [List.getElem?_append_left (by rw [← h.len]; exact hk)] at hq
      obtain ⟨e1, e2, e3⟩ := h.each k y q hy hq
      exact ⟨e1, own_of_block e2 (hsum k y · hy), e3⟩
    · have hlt := (List.getElem?_eq_some_iff.1 hy).1
      simp at hlt
      obtain rfl : k = us.length := by omega
      rw [List.getElem?_append_right (Nat.le_refl _), Nat.sub_self] at hy
      rw [h.len, List.getElem?_append_right (Nat.le_refl _), Nat.sub_self] at hq
      simp at hy hq
      subst hy hq
      exact ⟨⟨none, 0, rfl⟩, World.ownsRow_nil _ _ _ _, fun d hd => by simp at hd⟩
  · have hnil : ∀ (k : Nat) y, (us ++ [Value.slice none 0 0])[k]? = some y → us[k]? = some y ∨ y = .slice none 0 0 := fun k y hy => by
      by_cases hk : k < us.length
      · rw [List.getElem?_append_left hk] at hy; exact .inl hy
      · rw [List.getElem?_append_right (by omega)] at hy
        have hm := List.mem_of_getElem? hy
        simp at hm
        exact .inr hm
    rcases hnil i y hy with hy | rfl
    · rcases hnil j z hz with hz | rfl
      · exact h.sep i j y z hij hy hz
      · cases hb : y.ownBlock with
        | none => exact .inl rfl
        | some b => exact .inr (by simp [Value.ownBlock])
    · exact .inl rfl
/-- The map is written. -/
theorem Tr.mapped (h : Tr B g mb V us rows n D u) (hg : u.grownBy u' (some mb)) {n' : Nat} {D' : DataW Unit} (hm : u'.ownsMap Try.prog 26 (plainElem Try.prog 3) mb n' D') : Tr B g mb V us rows n' D' u' := by
  obtain ⟨h1, h2, h3, h4⟩ := h.lt
  obtain ⟨a1, a2, a3, a4⟩ := h.apart
  refine ⟨h.gB, h.mB, (hg.block _ h1 (fun e => a1 (by cases e; rfl))).trans h.obj, own_of_block h.own (fun b e => hg.block _ (h3 b e) (fun e' => a3 (by rw [e, ← e']))), fun k x r hx hr => ?_, h.sep, hm⟩
  obtain ⟨e1, e2, e3⟩ := h.each k x r hx hr
  exact ⟨e1, own_of_block e2 (fun b e => hg.block _ (h4 k x b hx e) (fun e' => (a4 k x hx).2.1 (by rw [e, ← e']))), e3⟩
end
end Go.Proofs.Ytkcmacglomdfcaa
