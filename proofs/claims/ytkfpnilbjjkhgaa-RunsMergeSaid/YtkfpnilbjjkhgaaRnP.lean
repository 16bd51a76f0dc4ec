/-
  POSTS, plainly: their order, the run of posts, the keys, the places of a key.
-/
import Derived.Shelf.SlSortCmp.Insertion
import Derived.Sort.Statements
import Derived.Shelf.Small.Strs
namespace Go.Proofs.Ytkfpnilbjjkhgaa
open Go.Lib Go.Sort

/-! ### The order of keys -/
theorem cb_self : ∀ a : List UInt8, compareBytes a a = 0
  | [] => rfl
  | x :: a => by rw [compareBytes, if_neg (by simp), if_neg (by simp)]; exact cb_self a
theorem cb_three : ∀ a b : List UInt8, compareBytes a b = -1 ∨ compareBytes a b = 0 ∨ compareBytes a b = 1
  | [], [] => .inr (.inl rfl)
  | [], _ :: _ => .inl rfl
  | _ :: _, [] => .inr (.inr rfl)
  | x :: a, y :: b => by
    rw [compareBytes]
    split
    · exact .inl rfl
    · split
      · exact .inr (.inr rfl)
      · exact cb_three a b
theorem cb_zero : ∀ a b : List UInt8, compareBytes a b = 0 → a = b
  | [], [], _ => rfl
  | [], _ :: _, h => by simp [compareBytes] at h
  | _ :: _, [], h => by simp [compareBytes] at h
  | x :: a, y :: b, h => by
    rw [compareBytes] at h
    split at h
    · simp at h
    · split at h
      · simp at h
      · rename_i h1 h2
        have e : x = y := UInt8.le_antisymm (UInt8.not_lt.1 h2) (UInt8.not_lt.1 h1)
        rw [e, cb_zero a b h]
theorem cb_anti : ∀ a b : List UInt8, compareBytes b a = - compareBytes a b
  | [], [] => rfl
  | [], _ :: _ => rfl
  | _ :: _, [] => rfl
  | x :: a, y :: b => by
    rw [compareBytes, compareBytes]
    by_cases h1 : x < y
    · have h2 : ¬ y < x := UInt8.not_lt.2 (UInt8.le_of_lt h1)
      rw [if_neg h2, if_pos h1, if_pos h1]; rfl
    · by_cases h2 : y < x
      · rw [if_pos h2, if_neg h1, if_pos h2]
      · rw [if_neg h2, if_neg h1, if_neg h1, if_neg h2, cb_anti a b]
theorem cb_trans : ∀ a b c : List UInt8, compareBytes a b < 0 → compareBytes b c < 0 → compareBytes a c < 0
  | [], [], _, h, _ => by simp [compareBytes] at h
  | [], _ :: _, [], _, h => by simp [compareBytes] at h
  | [], _ :: _, _ :: _, _, _ => by simp [compareBytes]
  | _ :: _, [], _, h, _ => by simp [compareBytes] at h
  | _ :: _, _ :: _, [], _, h => by simp [compareBytes] at h
  | x :: a, y :: b, z :: c, h1, h2 => by
    rw [compareBytes] at h1 h2 ⊢
    by_cases hxy : x < y
    · by_cases hyz : y < z
      · rw [if_pos (UInt8.lt_trans hxy hyz)]; decide
      · rw [if_neg hyz] at h2
        by_cases hzy : z < y
        · rw [if_pos hzy] at h2; simp at h2
        · have e : y = z := UInt8.le_antisymm (UInt8.not_lt.1 hzy) (UInt8.not_lt.1 hyz)
          rw [← e, if_pos hxy]; decide
    · rw [if_neg hxy] at h1
      by_cases hyx : y < x
      · rw [if_pos hyx] at h1; simp at h1
      · rw [if_neg hyx] at h1
        have e : x = y := UInt8.le_antisymm (UInt8.not_lt.1 hyx) (UInt8.not_lt.1 hxy)
        subst e
        by_cases hyz : x < z
        · rw [if_pos hyz]; decide
        · rw [if_neg hyz] at h2 ⊢
          by_cases hzy : z < x
          · rw [if_pos hzy] at h2; simp at h2
          · rw [if_neg hzy] at h2 ⊢
            exact cb_trans a b c h1 h2
theorem less_cb : ∀ a b : List UInt8, Go.Op.bytesLess a b = decide (compareBytes a b < 0)
  | [], [] => rfl
  | [], _ :: _ => rfl
  | _ :: _, [] => rfl
  | x :: a, y :: b => by
    rw [Go.Op.bytesLess, compareBytes, less_cb a b]
    by_cases h1 : x < y
    · simp [h1]
    · by_cases h2 : y < x
      · have : (x == y) = false := by
          rw [beq_eq_false_iff_ne]
          intro e
          subst e
          exact h1 h2
        simp [h1, h2, this]
      · have e : x = y := UInt8.le_antisymm (UInt8.not_lt.1 h2) (UInt8.not_lt.1 h1)
        subst e
        simp

/-! ### The order of posts -/
abbrev Po := List UInt8 × Int
def cmpP (x y : Po) : Int := if compareBytes x.1 y.1 ≠ 0 then compareBytes x.1 y.1 else compareInt x.2 y.2
def ltP (x y : Po) : Bool := ltOf cmpP x y
theorem ci_neg (x y : Int) : compareInt x y < 0 ↔ x < y := by unfold compareInt; split <;> (try split) <;> omega
theorem ltP_iff (x y : Po) : ltP x y = true ↔ compareBytes x.1 y.1 < 0 ∨ x.1 = y.1 ∧ x.2 < y.2 := by
  unfold ltP ltOf cmpP
  by_cases h : compareBytes x.1 y.1 = 0
  · rw [if_neg (by simpa using h), decide_eq_true_eq, ci_neg]
    have e := cb_zero _ _ h
    constructor
    · intro h2; exact .inr ⟨e, h2⟩
    · rintro (h2 | ⟨-, h2⟩)
      · omega
      · exact h2
  · rw [if_pos h, decide_eq_true_eq]
    constructor
    · intro h2; exact .inl h2
    · rintro (h2 | ⟨h2, -⟩)
      · exact h2
      · rw [h2, cb_self] at h; exact absurd rfl h
theorem ltP_irrefl (x : Po) : ltP x x = false := by
  cases h : ltP x x with
  | false => rfl
  | true =>
    rw [ltP_iff, cb_self] at h
    rcases h with h | ⟨-, h⟩ <;> omega
theorem ltP_trans {x y z : Po} (h1 : ltP x y = true) (h2 : ltP y z = true) : ltP x z = true := by
  rw [ltP_iff] at *
  rcases h1 with h1 | ⟨e1, h1⟩
  · rcases h2 with h2 | ⟨e2, h2⟩
    · exact .inl (cb_trans _ _ _ h1 h2)
    · rw [← e2]; exact .inl h1
  · rcases h2 with h2 | ⟨e2, h2⟩
    · rw [e1]; exact .inl h2
    · exact .inr ⟨e1.trans e2, by omega⟩
theorem ltP_total {x y : Po} (h1 : ltP x y = false) (h2 : ltP y x = false) : x = y := by
  have n1 : ¬ (ltP x y = true) := by rw [h1]; simp
  have n2 : ¬ (ltP y x = true) := by rw [h2]; simp
  rw [ltP_iff] at n1 n2
  have a := cb_anti x.1 y.1
  have e : compareBytes x.1 y.1 = 0 := by
    rcases cb_three x.1 y.1 with h | h | h
    · exact absurd (.inl (by omega)) n1
    · exact h
    · exact absurd (.inl (by omega)) n2
  have e1 := cb_zero _ _ e
  refine Prod.ext e1 ?_
  have m1 : ¬ x.2 < y.2 := fun h => n1 (.inr ⟨e1, h⟩)
  have m2 : ¬ y.2 < x.2 := fun h => n2 (.inr ⟨e1.symm, h⟩)
  omega
theorem ltP_asymm {x y : Po} (h : ltP x y = true) : ltP y x = false := by
  cases h2 : ltP y x with
  | false => rfl
  | true =>
    have := ltP_trans h h2
    rw [ltP_irrefl] at this
    cases this
theorem swoP : SWO (ltOf cmpP) where
  irrefl x := ltP_irrefl x
  trans x y z h1 h2 := ltP_trans h1 h2
  ntrans x y z h1 h2 := by
    cases h : ltOf cmpP x z with
    | false => rfl
    | true =>
      by_cases h3 : ltP y x = true
      · have h4 : ltP y z = true := ltP_trans h3 h
        have h2' : ltP y z = false := h2
        rw [h2'] at h4; cases h4
      · have e := ltP_total (x := x) (y := y) h1 (by simpa using h3)
        subst e
        have h2' : ltOf cmpP x z = false := h2
        rw [h2'] at h; cases h
theorem totP : ∀ x y : Po, ltOf cmpP x y = false → ltOf cmpP y x = false → x = y := fun _ _ h1 h2 => ltP_total h1 h2

/-! ### Strictly ascending -/
def Asc (l : List Po) : Prop := l.Pairwise fun x y => ltP x y = true
theorem Asc.head {x : Po} {l : List Po} (h : Asc (x :: l)) : ∀ y ∈ l, ltP x y = true := (List.pairwise_cons.1 h).1
theorem Asc.tail {x : Po} {l : List Po} (h : Asc (x :: l)) : Asc l := (List.pairwise_cons.1 h).2
theorem Asc.uniq : ∀ {a b : List Po}, Asc a → Asc b → (∀ x, x ∈ a ↔ x ∈ b) → a = b
  | [], [], _, _, _ => rfl
  | [], y :: b, _, _, h => by have := (h y).2 (by simp); simp at this
  | x :: a, [], _, _, h => by have := (h x).1 (by simp); simp at this
  | x :: a, y :: b, ha, hb, h => by
    have hxy : x = y := by
      have hx := (h x).1 (by simp)
      have hy := (h y).2 (by simp)
      rcases List.mem_cons.1 hx with e | hx
      · exact e
      · rcases List.mem_cons.1 hy with e | hy
        · exact e.symm
        · have h1 := ha.head y hy
          have h2 := hb.head x hx
          rw [ltP_asymm h1] at h2; cases h2
    subst hxy
    congr 1
    refine Asc.uniq ha.tail hb.tail fun z => ?_
    have hz := h z
    constructor
    · intro hza
      rcases List.mem_cons.1 (hz.1 (List.mem_cons_of_mem _ hza)) with e | hzb
      · subst e
        have := ha.head z hza
        rw [ltP_irrefl] at this; cases this
      · exact hzb
    · intro hzb
      rcases List.mem_cons.1 (hz.2 (List.mem_cons_of_mem _ hzb)) with e | hza
      · subst e
        have := hb.head z hzb
        rw [ltP_irrefl] at this; cases this
      · exact hza
/-- What slices.Compact leaves. -/
def compF : List Po → List Po
  | [] => []
  | [x] => [x]
  | x :: y :: r => if x = y then compF (y :: r) else x :: compF (y :: r)
theorem compF_mem : ∀ (l : List Po) (z : Po), z ∈ compF l ↔ z ∈ l
  | [], z => Iff.rfl
  | [x], z => Iff.rfl
  | x :: y :: r, z => by
    rw [compF]
    have ih := compF_mem (y :: r) z
    split
    · rename_i e
      subst e
      rw [ih]
      simp
    · rw [List.mem_cons, ih]
      simp only [List.mem_cons]
theorem compF_asc : ∀ l : List Po, l.Pairwise (fun x y => ltP y x = false) → Asc (compF l)
  | [], _ => List.Pairwise.nil
  | [x], _ => List.pairwise_singleton _ _
  | x :: y :: r, h => by
    have ht := (List.pairwise_cons.1 h).2
    have hx := (List.pairwise_cons.1 h).1
    rw [compF]
    split
    · exact compF_asc _ ht
    · rename_i hne
      refine List.pairwise_cons.2 ⟨fun z hz => ?_, compF_asc _ ht⟩
      rw [compF_mem] at hz
      have hxz : ltP z x = false := hx z hz
      cases hl : ltP x z with
      | true => rfl
      | false =>
        exfalso
        have e := ltP_total hl hxz
        subst e
        rcases List.mem_cons.1 hz with e | hz
        · exact hne e
        · have h1 : ltP x y = false := (List.pairwise_cons.1 ht).1 x hz
          have h2 : ltP y x = false := hx y (by simp)
          exact hne (ltP_total h1 h2)
theorem mem_tw {α : Type} (p : α → Bool) {x : α} : ∀ {l : List α}, x ∈ l.takeWhile p → p x = true
  | [], h => by simp at h
  | y :: l, h => by
    rw [List.takeWhile_cons] at h
    split at h
    · rename_i hy
      rcases List.mem_cons.1 h with e | h
      · subst e; exact hy
      · exact mem_tw p h
    · simp at h
/-! ### The document's run -/
def insAt (out : List Po) (p : Po) : Nat := (out.takeWhile fun x => ltP x p).length
def insP (out : List Po) (p : Po) : List Po := if out[insAt out p]? = some p then out else out.take (insAt out p) ++ p :: out.drop (insAt out p)
def newF (l : List Po) : List Po := l.foldl insP []
theorem newF_snoc (l : List Po) (p : Po) : newF (l ++ [p]) = insP (newF l) p := by simp [newF, List.foldl_append]
theorem insAt_take (out : List Po) (p : Po) : out.take (insAt out p) = out.takeWhile fun x => ltP x p := by
  have h := List.takeWhile_prefix (l := out) (fun x => ltP x p)
  exact (List.prefix_iff_eq_take.1 h).symm
theorem insAt_le (out : List Po) (p : Po) : insAt out p ≤ out.length := (List.takeWhile_prefix (l := out) (fun x => ltP x p)).length_le
theorem insAt_lt {out : List Po} {p : Po} {i : Nat} {x : Po} (h : i < insAt out p) (hx : out[i]? = some x) : ltP x p = true := by
  have h1 : x ∈ out.take (insAt out p) := by
    refine List.mem_iff_getElem?.2 ⟨i, ?_⟩
    rw [List.getElem?_take, if_pos h]; exact hx
  rw [insAt_take] at h1
  exact mem_tw (fun x => ltP x p) h1
theorem insAt_ge {out : List Po} {p : Po} {x : Po} (hx : out[insAt out p]? = some x) : ltP x p = false := by
  have e : out.dropWhile (fun x => ltP x p) = out.drop (insAt out p) := by
    have h := List.takeWhile_append_dropWhile (l := out) (p := fun x => ltP x p)
    have h2 := List.take_append_drop (insAt out p) out
    rw [insAt_take] at h2
    exact List.append_cancel_left (h.trans h2.symm)
  have hl : insAt out p < out.length := (List.getElem?_eq_some_iff.1 hx).1
  rw [List.drop_eq_getElem_cons hl] at e
  rw [List.getElem?_eq_getElem hl] at hx
  cases hx
  cases h : ltP out[insAt out p] p with
  | false => rfl
  | true =>
    exfalso
    have := List.head?_dropWhile_not (fun x => ltP x p) out
    rw [e] at this
    simp only [List.head?_cons] at this
    rw [h] at this
    cases this
theorem insP_asc {out : List Po} (h : Asc out) (p : Po) : Asc (insP out p) := by
  unfold insP
  split
  · exact h
  · rename_i hne
    have hs := List.take_append_drop (insAt out p) out
    have hp : ((out.take (insAt out p)) ++ out.drop (insAt out p)).Pairwise (fun x y => ltP x y = true) := by rw [hs]; exact h
    rw [List.pairwise_append] at hp
    obtain ⟨h1, h2, h3⟩ := hp
    have hgt : ∀ y ∈ out.drop (insAt out p), ltP p y = true := by
      intro y hy
      cases hd : out.drop (insAt out p) with
      | nil => rw [hd] at hy; simp at hy
      | cons z r =>
        have hl : insAt out p < out.length := by
          rcases Nat.lt_or_ge (insAt out p) out.length with h | h
          · exact h
          · rw [List.drop_eq_nil_of_le h] at hd; cases hd
        have hz : out[insAt out p]? = some z := by
          have := congrArg List.head? hd
          rw [List.head?_drop] at this
          simpa using this
        have h4 := insAt_ge hz
        have hpz : ltP p z = true := by
          cases h5 : ltP p z with
          | true => rfl
          | false => exact absurd (by rw [hz, ltP_total h4 h5]) hne
        rw [hd] at hy h2
        rcases List.mem_cons.1 hy with e | hy
        · subst e; exact hpz
        · exact ltP_trans hpz ((List.pairwise_cons.1 h2).1 y hy)
    show List.Pairwise _ _
    rw [List.pairwise_append]
    refine ⟨h1, List.pairwise_cons.2 ⟨hgt, h2⟩, fun x hx y hy => ?_⟩
    rcases List.mem_cons.1 hy with e | hy
    · subst e
      rw [insAt_take] at hx
      exact mem_tw (fun x => ltP x y) hx
    · exact h3 x hx y hy
theorem insP_mem (out : List Po) (p z : Po) : z ∈ insP out p ↔ z ∈ out ∨ z = p := by
  unfold insP
  split
  · rename_i h
    constructor
    · exact .inl
    · rintro (h1 | h1)
      · exact h1
      · subst h1; exact List.mem_of_getElem? h
  · conv => rhs; rw [← List.take_append_drop (insAt out p) out]
    simp only [List.mem_append, List.mem_cons]
    constructor
    · rintro (h | h | h)
      · exact .inl (.inl h)
      · exact .inr h
      · exact .inl (.inr h)
    · rintro ((h | h) | h)
      · exact .inl h
      · exact .inr (.inr h)
      · exact .inr (.inl h)
theorem newF_all (l : List Po) : Asc (newF l) ∧ ∀ z, z ∈ newF l ↔ z ∈ l := by
  have key : ∀ (l acc : List Po), Asc acc → Asc (l.foldl insP acc) ∧ ∀ z, z ∈ l.foldl insP acc ↔ z ∈ acc ∨ z ∈ l := by
    intro l
    induction l with
    | nil => intro acc h; exact ⟨h, fun z => by simp⟩
    | cons p l ih =>
      intro acc h
      obtain ⟨h1, h2⟩ := ih (insP acc p) (insP_asc h p)
      refine ⟨h1, fun z => ?_⟩
      rw [List.foldl_cons, h2, insP_mem, List.mem_cons]
      constructor
      · rintro ((h | h) | h)
        · exact .inl h
        · exact .inr (.inl h)
        · exact .inr (.inr h)
      · rintro (h | h | h)
        · exact .inl (.inl h)
        · exact .inl (.inr h)
        · exact .inr h
  obtain ⟨h1, h2⟩ := key l [] List.Pairwise.nil
  exact ⟨h1, fun z => by rw [newF, h2]; simp⟩
/-- Sorted, and each once: the document's run. -/
def sortF (l : List Po) : List Po := l.mergeSort fun x y => !(ltOf cmpP) y x
theorem sortF_le (l : List Po) : (sortF l).Pairwise (fun x y => ltP y x = false) := by
  have h := List.pairwise_mergeSort (le := fun x y : Po => !(ltOf cmpP) y x) (fun a b c h1 h2 => by
    simp only [Bool.not_eq_true'] at *
    exact swoP.ntrans c b a h2 h1) (fun a b => by
    by_cases h : ltOf cmpP b a = true
    · have h2 : ltOf cmpP a b = false := ltP_asymm h
      simp [h2]
    · simp [h]) l
  exact h.imp fun h => by simpa [ltP] using h
theorem newF_eq (l : List Po) : compF (sortF l) = newF l := by
  obtain ⟨h1, h2⟩ := newF_all l
  refine Asc.uniq (compF_asc _ (sortF_le l)) h1 fun z => ?_
  rw [compF_mem, h2, sortF, List.mem_mergeSort]
theorem newF_length (l : List Po) : (newF l).length ≤ l.length := by
  have key : ∀ (l acc : List Po), (l.foldl insP acc).length ≤ acc.length + l.length := by
    intro l
    induction l with
    | nil => intro acc; simp
    | cons p l ih =>
      intro acc
      have h := ih (insP acc p)
      have h2 : (insP acc p).length ≤ acc.length + 1 := by
        unfold insP
        split
        · omega
        · rw [List.length_append, List.length_cons, List.length_take, List.length_drop]; omega
      rw [List.foldl_cons, List.length_cons]
      omega
  have := key l []
  simpa [newF] using this
/-! ### Keys, and a key's places -/
def keyStep (out : List (List UInt8)) (p : Po) : List (List UInt8) := if out.getLast? = some p.1 then out else out ++ [p.1]
def keysF (l : List Po) : List (List UInt8) := l.foldl keyStep []
theorem keysF_snoc (l : List Po) (p : Po) : keysF (l ++ [p]) = keyStep (keysF l) p := by simp [keysF, List.foldl_append]
theorem keysF_last (l : List Po) (p : Po) : (keysF (l ++ [p])).getLast? = some p.1 := by
  rw [keysF_snoc, keyStep]
  split
  · assumption
  · simp
def fromF (l : List Po) (k : List UInt8) (a : Int) : List Int := (l.filter fun p => decide (p.1 = k) && decide (a ≤ p.2)).map (·.2)
/-- Where a key's places begin. -/
def seekF (l : List Po) (k : List UInt8) (a : Int) : Nat := insAt l (k, a)
theorem asc_take_lt {l : List Po} {p : Po} {x : Po} (h : x ∈ l.take (insAt l p)) : ltP x p = true := by
  rw [insAt_take] at h
  exact mem_tw (fun x => ltP x p) h
theorem asc_drop_ge {l : List Po} (ha : Asc l) {p : Po} {x : Po} (h : x ∈ l.drop (insAt l p)) : ltP x p = false := by
  obtain ⟨i, hi⟩ := List.mem_iff_getElem?.1 h
  rw [List.getElem?_drop] at hi
  have hlen := (List.getElem?_eq_some_iff.1 hi).1
  have hl : insAt l p < l.length := by omega
  have h0 := insAt_ge (List.getElem?_eq_getElem hl)
  by_cases hi0 : i = 0
  · subst hi0
    rw [Nat.add_zero, List.getElem?_eq_getElem hl] at hi
    cases hi
    exact h0
  · have hlt : ltP l[insAt l p] x = true := by
      have := List.pairwise_iff_getElem.1 ha (insAt l p) (insAt l p + i) hl hlen (by omega)
      rw [List.getElem?_eq_getElem hlen] at hi
      cases hi
      exact this
    cases hx : ltP x p with
    | false => rfl
    | true =>
      have := ltP_trans hlt hx
      rw [h0] at this; cases this
theorem fromF_eq {l : List Po} (ha : Asc l) (k : List UInt8) (a : Int) : fromF l k a = ((l.drop (seekF l k a)).takeWhile fun p => decide (p.1 = k)).map (·.2) := by
  unfold fromF
  congr 1
  conv => lhs; rw [← List.take_append_drop (seekF l k a) l]
  rw [List.filter_append]
  have h1 : (l.take (seekF l k a)).filter (fun p => decide (p.1 = k) && decide (a ≤ p.2)) = [] := by
    rw [List.filter_eq_nil_iff]
    intro x hx hc
    have hlt := asc_take_lt hx
    rw [ltP_iff] at hlt
    simp only [Bool.and_eq_true, decide_eq_true_eq] at hc
    rcases hlt with h | ⟨-, h⟩
    · rw [hc.1, cb_self] at h; omega
    · omega
  rw [h1, List.nil_append]
  have hge : ∀ x ∈ l.drop (seekF l k a), ltP x (k, a) = false := fun x hx => asc_drop_ge ha hx
  have hasc : Asc (l.drop (seekF l k a)) := ha.sublist (List.drop_sublist _ _)
  generalize l.drop (seekF l k a) = r at hge hasc
  induction r with
  | nil => rfl
  | cons x r ih =>
    have ih := ih (fun y hy => hge y (List.mem_cons_of_mem _ hy)) hasc.tail
    have hx := hge x (by simp)
    by_cases hk : x.1 = k
    · have hxa : a ≤ x.2 := by
        have n1 : ¬ (ltP x (k, a) = true) := by rw [hx]; simp
        rw [ltP_iff] at n1
        have : ¬ x.2 < a := fun h => n1 (.inr ⟨hk, h⟩)
        omega
      rw [List.filter_cons_of_pos (by simp [hk, hxa]), List.takeWhile_cons_of_pos (by simp [hk]), ih]
    · rw [List.filter_cons_of_neg (by simp [hk]), List.takeWhile_cons_of_neg (by simp [hk])]
      rw [List.filter_eq_nil_iff]
      intro y hy hc
      simp only [Bool.and_eq_true, decide_eq_true_eq] at hc
      have hxy := hasc.head y hy
      rw [ltP_iff] at hxy
      have n1 : ¬ (ltP x (k, a) = true) := by rw [hx]; simp
      rw [ltP_iff] at n1
      rcases hxy with h | ⟨h, -⟩
      · rw [hc.1] at h
        exact n1 (.inl h)
      · exact hk (h.trans hc.1)
end Go.Proofs.Ytkfpnilbjjkhgaa
