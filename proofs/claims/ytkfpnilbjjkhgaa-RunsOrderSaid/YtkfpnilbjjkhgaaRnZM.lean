/-
  REGIONS THAT DRAW, with many operations that may come up early: an invariant over what is listed. What region 6 of RunsOrder keeps.
-/
import Derived.Test.YtkfpnilbjjkhgaaRnZ
namespace Go.Proofs.Ytkfpnilbjjkhgaa
open Go.RowKit Go.Lib Go.Sort

theorem RP.box_far {W W' : World} {A : Option Addr} {n g : Nat} {ls : List Po} {x : Option Addr} {y z : Nat} {t : TypeId} (h : RP W A n ls) (k : W.heap[g]? = some (.cells #[.slice x y z] t (0, 0)))
    (hk : ∀ b, b < W.heap.size → b ≠ g → W'.heap[b]? = W.heap[b]?) : RP W' A n ls := by
  refine ⟨h.1, fun h0 => ?_⟩
  obtain ⟨b, o, rfl, hr⟩ := h.2 h0
  refine ⟨b, o, rfl, fun j u hu => ?_⟩
  have hbg : b ≠ g := by
    rintro rfl
    cases ls with
    | nil => have := h.1; simp at this; omega
    | cons p r =>
      have h5 := hr 0 (.string ⟨p.1.toArray⟩) rfl
      rw [cell_of_row _ _ _ _ _ _ k] at h5
      rcases o with _ | o <;> simp at h5
  have hc := hr j u hu
  exact (World.cell?_of_block (a := ⟨b, o + j, none⟩) (hk b (World.block_lt_of_cell? W ⟨b, o + j, none⟩ hc) hbg)).trans hc
theorem setCells_far (W : World) (g : Nat) (vs : List Value) : ∀ b, b < W.heap.size → b ≠ g → (W.setCells g 0 vs).heap[b]? = W.heap[b]? := fun b hb hne =>
  (grownBy_setCells W g vs 0 W (grownBy_refl W _)).block b hb (fun e => hne (Option.some.inj e))
def depsOf (md : Region.Mode) (ops : Array Oper) : List (Nat × List Nat) := (List.range ops.size).map fun i => (i, ((ops[i]?).map fun o => (o.after.toList.filter (Region.binds md ·)).map (·.on)).getD [])
theorem ready_deps (md : Region.Mode) (ops : Array Oper) (l : Array Bool) : Region.ready md ops l = ((depsOf md ops).filter fun p => !l.getD p.1 true && p.2.all fun j => l.getD j false).map (·.1) := by
  unfold depsOf Region.ready
  rw [List.filter_map, List.map_map]
  rw [show (Prod.fst ∘ fun i => ((i, ((ops[i]?).map fun o => (o.after.toList.filter (Region.binds md ·)).map (·.on)).getD []) : Nat × List Nat)) = id from rfl, List.map_id]
  refine List.filter_congr fun i hi => ?_
  rw [List.mem_range] at hi
  simp only [Function.comp, Array.getElem?_eq_getElem hi, Option.map_some, Option.getD_some]
  congr 1
  rw [← Array.all_toList]
  generalize (ops[i]).after.toList = es
  induction es with
  | nil => rfl
  | cons e r ih =>
    rw [List.all_cons, ih, List.filter_cons]
    cases hb : Region.binds md e <;> simp
section
variable {P : Program} {ops : Array Oper} {md : Region.Mode} {S : World → Prop} {Mv : World → World → Prop} {Q : Exit → Act → World → Prop}
theorem wpAnyM_inv (I : Act → Array Bool → Act → World → Prop) (T : Array Bool) (cnt : Array Bool → Nat) (k g : Nat) {fuel : Nat} (hf : fuel = k + g) {l0 : Array Bool} {a0 : Act} {w0 : World}
    (hmv : ∀ l a w w', I a0 l a w → S w' → Mv w w' → I a0 l a w')
    (hstep : ∀ l a w i, I a0 l a w → S w → l ≠ T → i ∈ Region.ready md ops l → wpOp P ops Q i (fun a' w' => S w' ∧ I a0 (l.setIfInBounds i true) a' w') a w)
    (hne : ∀ l a w, I a0 l a w → l ≠ T → Region.ready md ops l ≠ [])
    (hend : ∀ a w, I a0 T a w → wpAnyM P md ops Q S Mv g T a w)
    (hcnt : ∀ l a w i, I a0 l a w → l ≠ T → i ∈ Region.ready md ops l → cnt (l.setIfInBounds i true) + 1 = cnt l) (hT : ∀ l a w, I a0 l a w → cnt l = 0 → l = T) (hT0 : cnt T = 0)
    (hk : cnt l0 = k) (h0 : I a0 l0 a0 w0) : wpAnyM P md ops Q S Mv fuel l0 a0 w0 := by
  subst hf
  suffices h : ∀ k l a w, cnt l = k → I a0 l a w → wpAnyM P md ops Q S Mv (k + g) l a w from h k l0 a0 w0 hk h0
  intro k
  induction k with
  | zero =>
    intro l a w hc hI
    have hl := hT l a w hI hc
    subst hl
    rw [Nat.zero_add]
    exact hend a w hI
  | succ k ih =>
    intro l a w hc hI
    have hlT : l ≠ T := fun e => by rw [e, hT0] at hc; omega
    rw [Nat.succ_add]
    intro w' hS hM
    have hI' := hmv l a w w' hI hS hM
    refine ⟨fun e => absurd e (hne l a w' hI' hlT), fun i hi => ?_⟩
    have h5 := hcnt l a w' i hI' hlT hi
    exact wpOp_mono (fun a' w'' h' => ⟨h'.1, ih _ a' w'' (by omega) h'.2⟩) (hstep l a w' i hI' hS hlT hi)
end
section
variable {P : Program} {md : Region.Mode} {S : World → Prop} {Mv : World → World → Prop} {Q : Exit → Act → World → Prop}
theorem wpAnyM_mid (is : List Nat) (g : Nat) {fuel : Nat} {l : List Oper} {listed : Array Bool} {a : Act} {w : World} (hf : fuel = (is.filterMap (fun i => l[i]?)).length + g) (hr : ∀ w, Mv w w) (ht : ∀ {A B C : World}, Mv A B → Mv B C → Mv A C) (hsel : Region.noSelect l.toArray = true)
    (hQ : ∀ c (a : Act) d v w, Q (.panic c) (a.put d v) w → Q (.panic c) a w) (hlt : is.all (fun i => decide (i < l.length)) = true) (hB : headsIB md l.toArray is listed = true)
    (h : wpMH P l.toArray S Mv (fun a w => wpAnyM P md l.toArray Q S Mv g (lstI is listed) a w) (is.filterMap (fun i => l[i]?)) a w) : wpAnyM P md l.toArray Q S Mv fuel listed a w := by
  subst hf
  exact wpAnyM_of_headsI hr ht hsel hQ g is _ listed a w (pick_map l is hlt) hB h
end
def TwoAt (W : World) (t : Value) (l1 l2 : List Po) : Prop := ∃ b vs, t = .slice (some ⟨b, 0, none⟩) 2 2 ∧ RunsAt W (some ⟨b, 0, none⟩) 2 vs [l1, l2]
def RunV (W : World) (t : Value) (l : List Po) : Prop := ∃ A c, t = .agg #[.slice A l.length c] ∧ RP W A l.length l ∧ l.length ≤ c ∧ c ≤ maxLen
def NewBox (V W : World) (t : Value) : Prop := ∃ b, t = .pointer (some ⟨b, 0, none⟩) ∧ V.heap.size ≤ b ∧ W.heap[b]? = some (.cells #[.slice none 0 0] 28 (0, 0))
theorem TwoAt.below {W W' : World} {t : Value} {l1 l2 : List Po} (h : TwoAt W t l1 l2) (hb : Below W.heap.size W W') : TwoAt W' t l1 l2 := by
  obtain ⟨b, vs, e, h⟩ := h
  exact ⟨b, vs, e, h.below hb⟩
theorem RunV.below {W W' : World} {t : Value} {l : List Po} (h : RunV W t l) (hb : Below W.heap.size W W') : RunV W' t l := by
  obtain ⟨A, c, e, h, h2⟩ := h
  exact ⟨A, c, e, h.below hb, h2⟩
theorem NewBox.below {V W W' : World} {t : Value} (h : NewBox V W t) (hb : Below W.heap.size W W') : NewBox V W' t := by
  obtain ⟨b, e, h, h2⟩ := h
  exact ⟨b, e, h, heap_below h2 hb⟩
structure OrI (V : World) (la lb lc L : List Po) (x2 x3 x5 x6 x10 x11 x12 x13 x14 x15 : Bool) (t37 t38 t40 t41 t45 t46 t47 t48 t10 t11 : Value) (W : World) : Prop where
  below : Below V.heap.size V W
  p2 : x2 = true → TwoAt W t37 (newF la) (newF lb)
  p3 : x3 = true → RunV W t38 (newF (la ++ lb))
  p5 : x5 = true → TwoAt W t40 (newF (la ++ lb)) (newF lc)
  p6 : x6 = true → RunV W t41 L
  p10 : x10 = true → TwoAt W t45 (newF lb) (newF la)
  p11 : x11 = true → RunV W t46 (newF (lb ++ la))
  p12 : x12 = true → TwoAt W t47 (newF lc) (newF (lb ++ la))
  p13 : x13 = true → RunV W t48 L
  p14 : x14 = true → NewBox V W t10
  p15 : x15 = true → NewBox V W t11
  ne : x14 = true → x15 = true → t10 ≠ t11
  c11 : x11 = true → x10 = true
  c12 : x12 = true → x11 = true
  c13 : x13 = true → x12 = true
theorem OrI.stable {V : World} {la lb lc L : List Po} {x2 x3 x5 x6 x10 x11 x12 x13 x14 x15 : Bool} {t37 t38 t40 t41 t45 t46 t47 t48 t10 t11 : Value} {W W' : World} (h : OrI V la lb lc L x2 x3 x5 x6 x10 x11 x12 x13 x14 x15 t37 t38 t40 t41 t45 t46 t47 t48 t10 t11 W) (hb : Below W.heap.size W W') :
    OrI V la lb lc L x2 x3 x5 x6 x10 x11 x12 x13 x14 x15 t37 t38 t40 t41 t45 t46 t47 t48 t10 t11 W' :=
  ⟨h.below.trans (hb.mono h.below.size), fun e => (h.p2 e).below hb, fun e => (h.p3 e).below hb, fun e => (h.p5 e).below hb, fun e => (h.p6 e).below hb, fun e => (h.p10 e).below hb, fun e => (h.p11 e).below hb, fun e => (h.p12 e).below hb, fun e => (h.p13 e).below hb, fun e => (h.p14 e).below hb, fun e => (h.p15 e).below hb, h.ne, h.c11, h.c12, h.c13⟩
def orL (x2 x3 x5 x6 x10 x11 x12 x13 x14 x15 : Bool) : Array Bool := #[true, true, x2, x3, true, x5, x6, true, true, true, x10, x11, x12, x13, x14, x15, false, false]
def orC (l : Array Bool) : Nat := (l.toList.take 16).countP (· = false)
theorem orL_all (x2 x3 x5 x6 x10 x11 x12 x13 x14 x15 : Bool) (h : orC (orL x2 x3 x5 x6 x10 x11 x12 x13 x14 x15) = 0) : orL x2 x3 x5 x6 x10 x11 x12 x13 x14 x15 = orL true true true true true true true true true true := by
  unfold orC orL at h
  rw [List.countP_eq_zero] at h
  have g : ∀ x ∈ [x2, x3, x5, x6, x10, x11, x12, x13, x14, x15], x = true := fun x hx => by
    have := h x (by simp at hx ⊢; grind)
    simpa using this
  simp only [List.mem_cons, List.not_mem_nil, or_false, forall_eq_or_imp, forall_eq] at g
  obtain ⟨rfl, rfl, rfl, rfl, rfl, rfl, rfl, rfl, rfl, rfl⟩ := g
  rfl
def orD : List (Nat × List Nat) := [(0, []), (1, []), (2, [0, 1]), (3, [2]), (4, []), (5, [3, 4]), (6, [5, 3]), (7, []), (8, []), (9, []), (10, [8, 9]), (11, [10, 6]), (12, [7, 11]), (13, [12, 11]), (14, []), (15, []), (16, [14, 6, 13, 0, 1, 2, 3, 4, 5, 6, 14, 15]), (17, [15, 13, 16, 0, 1, 2, 3, 4, 5, 6, 7, 8, 9, 10, 11, 12, 13, 14, 15, 16])]
theorem or_ready {md : Region.Mode} {ops : Array Oper} (hd : depsOf md ops = orD) (x2 x3 x5 x6 x10 x11 x12 x13 x14 x15 : Bool) (i : Nat) (h : i ∈ Region.ready md ops (orL x2 x3 x5 x6 x10 x11 x12 x13 x14 x15)) :
    (i = 2 ∧ x2 = false) ∨ (i = 3 ∧ x3 = false ∧ x2 = true) ∨ (i = 5 ∧ x5 = false ∧ x3 = true) ∨ (i = 6 ∧ x6 = false ∧ x5 = true) ∨ (i = 10 ∧ x10 = false) ∨ (i = 11 ∧ x11 = false ∧ x10 = true) ∨ (i = 12 ∧ x12 = false ∧ x11 = true) ∨ (i = 13 ∧ x13 = false ∧ x12 = true) ∨
    (i = 14 ∧ x14 = false) ∨ (i = 15 ∧ x15 = false) ∨ (i = 16 ∧ x6 = true ∧ x13 = true ∧ x14 = true ∧ x15 = true ∧ x2 = true ∧ x3 = true ∧ x5 = true) := by
  rw [ready_deps, hd] at h
  simp only [orD, orL, List.mem_map, List.mem_filter, Bool.and_eq_true, Bool.not_eq_true', List.all_eq_true] at h
  obtain ⟨p, ⟨hp, h1, h2⟩, rfl⟩ := h
  simp only [List.mem_cons, List.not_mem_nil, or_false] at hp
  rcases hp with rfl | rfl | rfl | rfl | rfl | rfl | rfl | rfl | rfl | rfl | rfl | rfl | rfl | rfl | rfl | rfl | rfl | rfl <;> simp [Array.getD] at h1 h2 <;> simp [h1, h2]
theorem or_some {md : Region.Mode} {ops : Array Oper} (hd : depsOf md ops = orD) (x2 x3 x5 x6 x10 x11 x12 x13 x14 x15 : Bool) (h0 : Region.ready md ops (orL x2 x3 x5 x6 x10 x11 x12 x13 x14 x15) = []) : orL x2 x3 x5 x6 x10 x11 x12 x13 x14 x15 = orL true true true true true true true true true true := by
  rw [ready_deps, hd, List.map_eq_nil_iff, List.filter_eq_nil_iff] at h0
  have g2 := h0 (2, [0, 1]) (by simp [orD])
  have g3 := h0 (3, [2]) (by simp [orD])
  have g5 := h0 (5, [3, 4]) (by simp [orD])
  have g6 := h0 (6, [5, 3]) (by simp [orD])
  have g10 := h0 (10, [8, 9]) (by simp [orD])
  have g11 := h0 (11, [10, 6]) (by simp [orD])
  have g12 := h0 (12, [7, 11]) (by simp [orD])
  have g13 := h0 (13, [12, 11]) (by simp [orD])
  have g14 := h0 (14, []) (by simp [orD])
  have g15 := h0 (15, []) (by simp [orD])
  simp [orL, Array.getD] at g2 g3 g5 g6 g10 g11 g12 g13 g14 g15
  simp_all
def OrX (V : World) (la lb lc L : List Po) (a0 : Act) (l : Array Bool) (a : Act) (w : World) : Prop := ∃ x2 x3 x5 x6 x10 x11 x12 x13 x14 x15 : Bool, ∃ t37 t38 t40 t41 t45 t46 t47 t48 t10 t11 : Value, l = orL x2 x3 x5 x6 x10 x11 x12 x13 x14 x15 ∧ a = ((((((((((a0.put (some 37) t37).put (some 38) t38).put (some 40) t40).put (some 41) t41).put (some 45) t45).put (some 46) t46).put (some 47) t47).put (some 48) t48).put (some 10) t10).put (some 11) t11) ∧ OrI V la lb lc L x2 x3 x5 x6 x10 x11 x12 x13 x14 x15 t37 t38 t40 t41 t45 t46 t47 t48 t10 t11 w
section
variable {V : World} {la lb lc L : List Po} {a0 : Act} {l : Array Bool} {a : Act} {w : World} {md : Region.Mode} {ops : Array Oper}
theorem OrX.stable {w' : World} (h : OrX V la lb lc L a0 l a w) (hb : Below w.heap.size w w') : OrX V la lb lc L a0 l a w' := by
  obtain ⟨x2, x3, x5, x6, x10, x11, x12, x13, x14, x15, t37, t38, t40, t41, t45, t46, t47, t48, t10, t11, rfl, rfl, hI⟩ := h
  exact ⟨x2, x3, x5, x6, x10, x11, x12, x13, x14, x15, t37, t38, t40, t41, t45, t46, t47, t48, t10, t11, rfl, rfl, hI.stable hb⟩
theorem OrX.some (hd : depsOf md ops = orD) (h : OrX V la lb lc L a0 l a w) (hT : l ≠ orL true true true true true true true true true true) : Region.ready md ops l ≠ [] := by
  obtain ⟨x2, x3, x5, x6, x10, x11, x12, x13, x14, x15, t37, t38, t40, t41, t45, t46, t47, t48, t10, t11, rfl, rfl, hI⟩ := h
  exact fun e => hT (or_some hd _ _ _ _ _ _ _ _ _ _ e)
theorem OrX.all (h : OrX V la lb lc L a0 l a w) (hc : orC l = 0) : l = orL true true true true true true true true true true := by
  obtain ⟨x2, x3, x5, x6, x10, x11, x12, x13, x14, x15, t37, t38, t40, t41, t45, t46, t47, t48, t10, t11, rfl, rfl, hI⟩ := h
  exact orL_all _ _ _ _ _ _ _ _ _ _ hc
theorem OrX.cnt (hd : depsOf md ops = orD) {i : Nat} (h : OrX V la lb lc L a0 l a w) (hT : l ≠ orL true true true true true true true true true true) (hi : i ∈ Region.ready md ops l) : orC (l.setIfInBounds i true) + 1 = orC l := by
  obtain ⟨x2, x3, x5, x6, x10, x11, x12, x13, x14, x15, t37, t38, t40, t41, t45, t46, t47, t48, t10, t11, rfl, rfl, hI⟩ := h
  rcases or_ready hd _ _ _ _ _ _ _ _ _ _ i hi with ⟨rfl, rfl⟩ | ⟨rfl, rfl, rfl⟩ | ⟨rfl, rfl, rfl⟩ | ⟨rfl, rfl, rfl⟩ | ⟨rfl, rfl⟩ | ⟨rfl, rfl, rfl⟩ | ⟨rfl, rfl, rfl⟩ | ⟨rfl, rfl, rfl⟩ | ⟨rfl, rfl⟩ | ⟨rfl, rfl⟩ | ⟨rfl, rfl, rfl, rfl, rfl, rfl, rfl, rfl⟩
  iterate 10 (· simp [orC, orL, List.countP_cons]; try omega)
  · obtain rfl := hI.c13 rfl
    obtain rfl := hI.c12 rfl
    obtain rfl := hI.c11 rfl
    exact absurd rfl hT
end
end Go.Proofs.Ytkfpnilbjjkhgaa
