/-
  ROWS OF DIGESTS, plainly: where a row is cut, its digest, and the stack of whole rows.
-/
namespace Go.Proofs.Ytkcmacglomdfcaa

/-- The greatest power of two below n (0 below 2). -/
def cutN (n : Nat) : Nat := if n < 2 then 0 else 2 ^ Nat.log2 (n - 1)
theorem cutN_of {n k : Nat} (h1 : 2 ^ k < n) (h2 : n ≤ 2 * 2 ^ k) : cutN n = 2 ^ k := by
  have hp : 1 ≤ 2 ^ k := Nat.one_le_two_pow
  have h : Nat.log2 (n - 1) = k := by
    rw [Nat.log2_eq_iff (by omega), Nat.pow_succ]
    omega
  rw [cutN, if_neg (by omega), h]
theorem cutN_spec {n : Nat} (h : 2 ≤ n) : ∃ k, cutN n = 2 ^ k ∧ 2 ^ k < n ∧ n ≤ 2 * 2 ^ k := by
  refine ⟨Nat.log2 (n - 1), by rw [cutN, if_neg (by omega)], ?_⟩
  have := (Nat.log2_eq_iff (n := n - 1) (k := Nat.log2 (n - 1)) (by omega)).1 rfl
  rw [Nat.pow_succ] at this
  omega
theorem cutN_lt {n : Nat} (h : 2 ≤ n) : cutN n < n := by
  obtain ⟨k, h1, h2, _⟩ := cutN_spec h
  omega
theorem cutN_pos {n : Nat} (h : 2 ≤ n) : 0 < cutN n := by
  obtain ⟨k, h1, _, _⟩ := cutN_spec h
  rw [h1]
  exact Nat.two_pow_pos k
theorem cutN_half {n : Nat} (h : 2 ≤ n) : n ≤ 2 * cutN n := by
  obtain ⟨k, h1, _, h3⟩ := cutN_spec h
  omega
theorem cutN_small {n : Nat} (h : n < 2) : cutN n = 0 := by rw [cutN, if_pos h]

abbrev Dg := List UInt8
section
variable (F : Dg → Dg)
def nodeF (l r : Dg) : Dg := F (1 :: (l ++ r))
def rootN : Nat → List Dg → Dg
  | 0, _ => F []
  | f + 1, l =>
    if l.length = 0 then F [] else if l.length = 1 then l.headD [] else nodeF F (rootN f (l.take (cutN l.length))) (rootN f (l.drop (cutN l.length)))
def rootF (l : List Dg) : Dg := rootN F l.length l
variable {F}
theorem rootN_any : ∀ f l, l.length ≤ f → rootN F f l = rootF F l := by
  intro f
  induction f using Nat.strongRecOn with
  | _ f ih =>
    intro l hl
    cases f with
    | zero =>
      have h0 : l.length = 0 := by omega
      rw [rootF, h0]
    | succ f =>
      rw [rootF]
      cases hn : l.length with
      | zero =>
        show rootN F (f + 1) l = F []
        simp only [rootN, hn, if_true]
      | succ n =>
        rw [rootN, rootN]
        by_cases h1 : l.length = 1
        · rw [if_neg (by omega), if_pos h1, if_neg (by omega), if_pos h1]
        · rw [if_neg (by omega), if_neg h1, if_neg (by omega), if_neg h1]
          have hc := cutN_lt (n := l.length) (by omega)
          have hp := cutN_pos (n := l.length) (by omega)
          have e1 : (l.take (cutN l.length)).length = cutN l.length := by rw [List.length_take]; omega
          have e2 : (l.drop (cutN l.length)).length = l.length - cutN l.length := by rw [List.length_drop]
          rw [ih f (by omega) _ (by omega), ih f (by omega) _ (by omega), ih n (by omega) _ (by omega), ih n (by omega) _ (by omega)]
theorem rootF_nil : rootF F [] = F [] := rfl
theorem rootF_one (x : Dg) : rootF F [x] = x := by simp [rootF, rootN]
theorem rootF_two {l : List Dg} (h : 2 ≤ l.length) : rootF F l = nodeF F (rootF F (l.take (cutN l.length))) (rootF F (l.drop (cutN l.length))) := by
  have hc := cutN_lt h
  have hp := cutN_pos h
  have e1 : (l.take (cutN l.length)).length = cutN l.length := by rw [List.length_take]; omega
  have e2 : (l.drop (cutN l.length)).length = l.length - cutN l.length := by rw [List.length_drop]
  have : rootF F l = rootN F ((l.length - 1) + 1) l := by rw [rootN_any _ _ (by omega)]
  rw [this, rootN, if_neg (by omega), if_neg (by omega), rootN_any _ _ (by omega), rootN_any _ _ (by omega)]
theorem rootF_append {a b : List Dg} {k : Nat} (ha : a.length = 2 ^ k) (hb : 0 < b.length) (hb2 : b.length ≤ 2 ^ k) : rootF F (a ++ b) = nodeF F (rootF F a) (rootF F b) := by
  have hp := Nat.two_pow_pos k
  have hc : cutN (a ++ b).length = a.length := by
    rw [ha]
    exact cutN_of (by rw [List.length_append]; omega) (by rw [List.length_append]; omega)
  rw [rootF_two (by rw [List.length_append]; omega), hc, List.take_left, List.drop_left]
theorem rootF_len (hF : ∀ t, (F t).length = 32) : ∀ (n : Nat) (l : List Dg), l.length = n → (∀ x ∈ l, x.length = 32) → (rootF F l).length = 32 := by
  intro n l hn hl
  match l, hn with
  | [], _ => rw [rootF_nil]; exact hF _
  | [x], _ => rw [rootF_one]; exact hl x (by simp)
  | x :: y :: r, _ => rw [rootF_two (by simp)]; exact hF _

/-! ### The stack of whole rows -/
variable (F) in
def Stk : List (Nat × Dg) → List Dg → Prop
  | [], p => p = []
  | x :: r, p => ∃ a b e, p = a ++ b ∧ a.length = x.1 ∧ x.1 = 2 ^ e ∧ x.2 = rootF F a ∧ Stk r b ∧ ∀ y ∈ r, y.1 < x.1
theorem Stk.pow {q : List (Nat × Dg)} {p : List Dg} (h : Stk F q p) : ∀ x ∈ q, ∃ e, x.1 = 2 ^ e := by
  induction q generalizing p with
  | nil => intro x hx; simp at hx
  | cons y r ih =>
    obtain ⟨a, b, e, _, _, he, _, hr, _⟩ := h
    intro x hx
    rcases List.mem_cons.1 hx with rfl | hx
    · exact ⟨e, he⟩
    · exact ih hr x hx
theorem Stk.snoc {q : List (Nat × Dg)} {x : Nat × Dg} {p : List Dg} : Stk F (q ++ [x]) p ↔ ∃ a b e, p = a ++ b ∧ Stk F q a ∧ b.length = x.1 ∧ x.1 = 2 ^ e ∧ x.2 = rootF F b ∧ ∀ y ∈ q, x.1 < y.1 := by
  induction q generalizing p with
  | nil =>
    constructor
    · rintro ⟨a, b, e, rfl, h1, h2, h3, h4, _⟩
      have hb : b = [] := h4
      subst hb
      exact ⟨[], a, e, by simp, rfl, h1, h2, h3, fun y hy => by simp at hy⟩
    · rintro ⟨a, b, e, rfl, h1, h2, h3, h4, _⟩
      have ha : a = [] := h1
      subst ha
      exact ⟨b, [], e, by simp, h2, h3, h4, rfl, fun y hy => by simp at hy⟩
  | cons y r ih =>
    constructor
    · rintro ⟨a, b, e, rfl, h1, h2, h3, h4, h5⟩
      obtain ⟨a', b', e', rfl, g1, g2, g3, g4, g5⟩ := ih.1 h4
      refine ⟨a ++ a', b', e', by simp, ⟨a, a', e, rfl, h1, h2, h3, g1, fun z hz => h5 z (by simp [hz])⟩, g2, g3, g4, fun z hz => ?_⟩
      rcases List.mem_cons.1 hz with rfl | hz
      · exact h5 x (by simp)
      · exact g5 z hz
    · rintro ⟨a, b, e, rfl, ⟨a1, a2, e1, rfl, h1, h2, h3, h4, h5⟩, g2, g3, g4, g5⟩
      refine ⟨a1, a2 ++ b, e1, by simp, h1, h2, h3, ih.2 ⟨a2, b, e, rfl, h4, g2, g3, g4, fun z hz => g5 z (by simp [hz])⟩, fun z hz => ?_⟩
      rcases List.mem_append.1 hz with hz | hz
      · exact h5 z hz
      · simp at hz
        subst hz
        exact g5 y (by simp)
variable (F) in
/-- The row that is being put together, and the stack below it. -/
def Mid (q : List (Nat × Dg)) (x : Nat × Dg) (p : List Dg) : Prop := ∃ a b e, p = a ++ b ∧ Stk F q a ∧ b.length = x.1 ∧ x.1 = 2 ^ e ∧ x.2 = rootF F b ∧ ∀ y ∈ q, x.1 ≤ y.1
theorem Stk.mid {q : List (Nat × Dg)} {a : List Dg} (h : Stk F q a) (l : Dg) : Mid F q (1, l) (a ++ [l]) := by
  refine ⟨a, [l], 0, rfl, h, rfl, rfl, (rootF_one l).symm, fun y hy => ?_⟩
  obtain ⟨e, he⟩ := h.pow y hy
  rw [he]
  exact Nat.two_pow_pos e
theorem Mid.merge {q : List (Nat × Dg)} {s : Nat} {d d' : Dg} {p : List Dg} (h : Mid F (q ++ [(s, d')]) (s, d) p) : Mid F q (2 * s, nodeF F d' d) p := by
  obtain ⟨a, b, e, rfl, h1, h2, h3, h4, _⟩ := h
  obtain ⟨a1, a2, e1, rfl, g1, g2, g3, g4, g5⟩ := Stk.snoc.1 h1
  simp only at h2 h3 h4 g2 g3 g4 g5
  refine ⟨a1, a2 ++ b, e + 1, by simp, g1, by simp only [List.length_append]; omega, by simp only; rw [h3, Nat.pow_succ]; omega, ?_, fun y hy => ?_⟩
  · simp only
    have hp := Nat.two_pow_pos e
    rw [rootF_append (k := e) (by omega) (by omega) (by omega), g4, h4]
  · obtain ⟨k, hk⟩ := g1.pow y hy
    have := g5 y hy
    simp only
    rw [hk, h3] at *
    have hlt : e < k := (Nat.pow_lt_pow_iff_right (by decide)).1 this
    have : 2 ^ (e + 1) ≤ 2 ^ k := Nat.pow_le_pow_right (by decide) hlt
    rw [Nat.pow_succ] at this
    omega
theorem Mid.stk {q : List (Nat × Dg)} {x : Nat × Dg} {p : List Dg} (h : Mid F q x p) (hl : ∀ r y, q = r ++ [y] → y.1 ≠ x.1) : Stk F (q ++ [x]) p := by
  obtain ⟨a, b, e, rfl, h1, h2, h3, h4, h5⟩ := h
  refine Stk.snoc.2 ⟨a, b, e, rfl, h1, h2, h3, h4, fun y hy => ?_⟩
  rcases List.eq_nil_or_concat q with rfl | ⟨r, z, rfl⟩
  · simp at hy
  · rw [List.concat_eq_append] at *
    obtain ⟨_, _, _, _, _, _, _, _, g5⟩ := Stk.snoc.1 h1
    have hz := h5 z (by simp)
    have hne := hl r z rfl
    rcases List.mem_append.1 hy with hy | hy
    · have := g5 y hy
      omega
    · simp at hy
      subst hy
      omega
variable (F) in
/-- A beginning of the stack, and the digest of what stands behind it. -/
def Fin' (q : List (Nat × Dg)) (d : Dg) (p : List Dg) : Prop := ∃ a b, p = a ++ b ∧ Stk F q a ∧ 0 < b.length ∧ d = rootF F b ∧ ∀ y ∈ q, b.length < y.1
theorem Stk.fin {q : List (Nat × Dg)} {x : Nat × Dg} {p : List Dg} (h : Stk F (q ++ [x]) p) : Fin' F q x.2 p := by
  obtain ⟨a, b, e, rfl, h1, h2, h3, h4, h5⟩ := Stk.snoc.1 h
  exact ⟨a, b, rfl, h1, by rw [h2, h3]; exact Nat.two_pow_pos e, h4, fun y hy => by rw [h2]; exact h5 y hy⟩
theorem Fin'.step {q : List (Nat × Dg)} {x : Nat × Dg} {d : Dg} {p : List Dg} (h : Fin' F (q ++ [x]) d p) : Fin' F q (nodeF F x.2 d) p := by
  obtain ⟨a, b, rfl, h1, h2, h3, h4⟩ := h
  obtain ⟨a1, a2, e1, rfl, g1, g2, g3, g4, g5⟩ := Stk.snoc.1 h1
  have hx := h4 x (by simp)
  refine ⟨a1, a2 ++ b, by simp, g1, by rw [List.length_append]; omega, ?_, fun y hy => ?_⟩
  · rw [rootF_append (k := e1) (by omega) h2 (by omega), g4, h3]
  · obtain ⟨k, hk⟩ := g1.pow y hy
    have := g5 y hy
    rw [List.length_append]
    rw [hk, g3] at this
    have hlt : e1 < k := (Nat.pow_lt_pow_iff_right (by decide)).1 this
    have : 2 ^ (e1 + 1) ≤ 2 ^ k := Nat.pow_le_pow_right (by decide) hlt
    rw [Nat.pow_succ] at this
    omega
theorem Fin'.root {d : Dg} {p : List Dg} (h : Fin' F [] d p) : d = rootF F p := by
  obtain ⟨a, b, rfl, h1, _, h3, _⟩ := h
  have ha : a = [] := h1
  subst ha
  exact h3
end
end Go.Proofs.Ytkcmacglomdfcaa
