/-
  ROWS OF DIGESTS, plainly: where a row is cut, its digest, and the stack of whole rows.
-/

namespace Go.Proofs.Ytkcmacglomdfcaa

/-- The greatest power of two below n (0 below 2). -/
def cutN (n : Nat) : Nat := if n < 2 then 0 else 2 ^ Nat.log2 (n - 1)
theorem cutN_of {n k : Nat} (h1 : 2 ^ k < n) (h2 : n ≤ 2 * 2 ^ k) : cutN n = 2 ^ k := by
  have hp : 1 ≤ 2 ^ k := Nat.one_le_two_pow
  have h : Nat.log2 (n - 1) = k := by
    rw [Nat.log2_eq_iff (by omega), Nat.pow_succ]
    omega
  rw [cutN, if_neg (by omega), h]
theorem cutN_spec {n : Nat} (h : 2 ≤ n) : ∃ k, cutN n = 2 ^ k ∧ 2 ^ k < n ∧ n ≤ 2 * 2 ^ k := by
  refine ⟨Nat.log2 (n - 1), by rw [cutN, if_neg (by omega)], ?_⟩
  have := (Nat.log2_eq_iff (n := n - 1) (k := Nat.log2 (n - 1)) (by omega)).1 rfl
  rw [Nat.pow_succ] at this
  omega
theorem cutN_lt {n : Nat} (h : 2 ≤ n) : cutN n < n := by
  obtain ⟨k, h1, h2, _⟩ := cutN_spec h
  omega
theorem cutN_pos {n : Nat} (h : 2 ≤ n) : 0 < cutN n := by
  obtain ⟨k, h1, _, _⟩ := cutN_spec h
  rw [h1]
  exact Nat.two_pow_pos k
theorem cutN_half {n : Nat} (h : 2 ≤ n) : n ≤ 2 * cutN n := by
  obtain ⟨k, h1, _, h3⟩ := cutN_spec h
  omega
theorem cutN_small {n : Nat} (h : n < 2) : cutN n = 0 := by rw [cutN, if_pos h]

abbrev Dg := List UInt8
section
variable (F : Dg → Dg)
def nodeF (l r : Dg) : Dg := F (1 :: (l ++ r))
def rootN : Nat → List Dg → Dg
  | 0, _ => F []
  | f + 1, l =>
    if l.length = 0 then F [] else if l.length = 1 then l.headD [] else nodeF F (rootN f (l.take (cutN l.length))) (rootN f (l.drop (cutN l.length)))
def rootF (l : List Dg) : Dg := rootN F l.length l
variable {F}
theorem rootN_any : ∀ f l, l.length ≤ f → rootN F f l = rootF F l := by
  intro f
  induction f using Nat.strongRecOn with
  | _ f ih =>
    intro l hl
    cases f with
    | zero =>
      have h0 : l.length = 0 := by omega
      rw [rootF, h0]
    | succ f =>
      rw [rootF]
      cases hn : l.length with
      | zero =>
        show rootN F (f + 1) l = F []
        simp only [rootN, hn, if_true]
      | succ n =>
        rw [rootN, rootN]
        by_cases h1 : l.length = 1
        · rw [if_neg (by omega), if_pos h1, if_neg (by omega), if_pos h1]
        · rw [if_neg (by omega), if_neg h1, if_neg (by omega), if_neg h1]
          have hc := cutN_lt (n := l.length) (by omega)
          have hp := cutN_pos (n := l.length) (by omega)
          have e1 : (l.take (cutN l.length)).length = cutN l.length := by rw [List.length_take]; omega
          have e2 : (l.drop (cutN l.length)).length = l.length - cutN l.length := by rw [List.length_drop]
          rw [ih f (by omega) _ (by omega), ih f (by omega) _ (by omega), ih n (by omega) _ (by omega), ih n (by omega) _ (by omega)]
theorem rootF_nil : rootF F [] = F [] := rfl
theorem rootF_one (x : Dg) : rootF F [x] = x := by simp [rootF, rootN]
theorem rootF_two {l : List Dg} (h : 2 ≤ l.length) : rootF F l = nodeF F (rootF F (l.take (cutN l.length))) (rootF F (l.drop (cutN l.length))) := by
  have hc := cutN_lt h
  have hp := cutN_pos h
  have e1 : (l.take (cutN l.length)).length = cutN l.length := by rw [List.length_take]; omega
  have e2 : (l.drop (cutN l.length)).length = l.length - cutN l.length := by rw [List.length_drop]
  have : rootF F l = rootN F ((l.length - 1) + 1) l := by rw [rootN_any _ _ (by omega)]
  rw [this, rootN, if_neg (by omega), if_neg (by omega), rootN_any _ _ (by omega), rootN_any _ _ (by omega)]
theorem rootF_append {a b : List Dg} {k : Nat} (ha : a.length = 2 ^ k) (hb : 0 < b.length) (hb2 : b.length ≤ 2 ^ k) : rootF F (a ++ b) = nodeF F (rootF F a) (rootF F b) := by
  have hp := Nat.two_pow_pos k
  have hc : cutN (a ++ b).length = a.length := by
    rw [ha]
    exact cutN_of (by rw [List.length_append]; omega) (by rw [List.length_append]; omega)
  rw [rootF_two (by rw [List.length_append]; omega), hc, List.take_left, List.drop_left]
theorem rootF_len (hF : ∀ t, (F t).length = 32) : ∀ (n : Nat) (l : List Dg), l.length = n → (∀ x ∈ l, x.length = 32) → (rootF F l).length = 32 := by
  intro n l hn hl
  match l, hn with
  | [], _ => rw [rootF_nil]; exact hF _
  | [x], _ => rw [rootF_one]; exact hl x (by simp)
  | x :: y :: r, _ => rw [rootF_two (by simp)]; exact hF _

/-! ### The stack of whole rows -/
variable (F) in
def Stk : List (Nat × Dg) → List Dg → Prop
  | [], p => p = []
  | x :: r, p => ∃ a b e, p = a ++ b ∧ a.length = x.1 ∧ x.1 = 2 ^ e ∧ x.2 = rootF F a ∧ Stk r b ∧ ∀ y ∈ r, y.1 < x.1
theorem Stk.pow {q : List (Nat × Dg)} {p : List Dg} (h : Stk F q p) : ∀ x ∈ q, ∃ e, x.1 = 2 ^ e := by
  induction q generalizing p with
  | nil => intro x hx; simp at hx
  | cons y r ih =>
    obtain ⟨a, b, e, _, _, he, _, hr, _⟩ := h
    intro x hx
    rcases List.mem_cons.1 hx with rfl | hx
    · exact ⟨e, he⟩
    · exact ih hr x hx
theorem Stk.snoc {q : List (Nat × Dg)} {x : Nat × Dg} {p : List Dg} : Stk F (q ++ [x]) p ↔ ∃ a b e, p = a ++ b ∧ Stk F q a ∧ b.length = x.1 ∧ x.1 = 2 ^ e ∧ x.2 = rootF F b ∧ ∀ y ∈ q, x.1 < y.1 := by
  induction q generalizing p with
  | nil =>
    constructor
    · rintro ⟨a, b, e, rfl, h1, h2, h3, h4, _⟩
      have hb : b = [] := h4
      subst hb
      exact ⟨[], a, e, by simp, rfl, h1, h2, h3, fun y hy => by simp at hy⟩
    · rintro ⟨a, b, e, rfl, h1, h2, h3, h4, _⟩
      have ha : a = [] := h1
      subst ha
      exact ⟨b, [], e, by simp, h2, h3, h4, rfl, fun y hy => by simp at hy⟩
  | cons y r ih =>
    constructor
    · rintro ⟨a, b, e, rfl, h1, h2, h3, h4, h5⟩
      obtain ⟨a', b', e', rfl, g1, g2, g3, g4, g5⟩ := ih.1 h4
      refine ⟨a ++ a', b', e', by simp, ⟨a, a', e, rfl, h1, h2, h3, g1, fun z hz => h5 z (by simp [hz])⟩, g2, g3, g4, fun z hz => ?_⟩
      rcases List.mem_cons.1 hz with rfl | hz
      · exact h5 x (by simp)
      · exact g5 z hz
    · rintro ⟨a, b, e, rfl, ⟨a1, a2, e1, rfl, h1, h2, h3, h4, h5⟩, g2, g3, g4, g5⟩
      refine ⟨a1, a2 ++ b, e1, by simp, h1, h2, h3, ih.2 ⟨a2, b, e, rfl, h4, g2, g3, g4, fun z hz => g5 z (by simp [hz])⟩, fun z hz => ?_⟩
      rcases List.mem_append.1 hz with hz | hz
      · exact h5 z hz
      · simp at hz
        subst hz
        exact g5 y (by simp)
variable (F) in
/-- The row that is being put together, and the stack below it. -/
def Mid (q : List (Nat × Dg)) (x : Nat × Dg) (p : List Dg) : Prop := ∃ a b e, p = a ++ b ∧ Stk F q a ∧ b.length = x.1 ∧ x.1 = 2 ^ e ∧ x.2 = rootF F b ∧ ∀ y ∈ q, x.1 ≤ y.1
theorem Stk.mid {q : List (Nat × Dg)} {a : List Dg} (h : Stk F q a) (l : Dg) : Mid F q (1, l) (a ++ [l]) := by
  refine ⟨a, [l], 0, rfl, h, rfl, rfl, (rootF_one l).symm, fun y hy => ?_⟩
  obtain ⟨e, he⟩ := h.pow y hy
  rw [he]
  exact Nat.two_pow_pos e
theorem Mid.merge {q : List (Nat × Dg)} {s : Nat} {d d' : Dg} {p : List Dg} (h : Mid F (q ++ [(s, d')]) (s, d) p) : Mid F q (2 * s, nodeF F d' d) p := by
  obtain ⟨a, b, e, rfl, h1, h2, h3, h4, _⟩ := h
  obtain ⟨a1, a2, e1, rfl, g1, g2, g3, g4, g5⟩ := Stk.snoc.1 h1
  simp only at h2 h3 h4 g2 g3 g4 g5
  refine ⟨a1, a2 ++ b, e + 1, by simp, g1, by simp only [List.length_append]; omega, by simp only; rw [h3, Nat.pow_succ]; omega, ?_, fun y hy => ?_⟩
  · simp only
    have hp := Nat.two_pow_pos e
    rw [rootF_append (k := e) (by omega) (by omega) (by omega), g4, h4]
  · obtain ⟨k, hk⟩ := g1.pow y hy
    have := g5 y hy
    simp only
    rw [hk, h3] at *
    have hlt : e < k := (Nat.pow_lt_pow_iff_right (by decide)).1 this
    have : 2 ^ (e + 1) ≤ 2 ^ k := Nat.pow_le_pow_right (by decide) hlt
    rw [Nat.pow_succ] at this
    omega
theorem Mid.stk {q : List (Nat × Dg)} {x : Nat × Dg} {p : List Dg} (h : Mid F q x p) (hl : ∀ r y, q = r ++ [y] → y.1 ≠ x.1) : Stk F (q ++ [x]) p := by
  obtain ⟨a, b, e, rfl, h1, h2, h3, h4, h5⟩ := h
  refine Stk.snoc.2 ⟨a, b, e, rfl, h1, h2, h3, h4, fun y hy => ?_⟩
  rcases List.eq_nil_or_concat q with rfl | ⟨r, z, rfl⟩
  · simp at hy
  · rw [List.concat_eq_append] at *
    obtain ⟨_, _, _, _, _, _, _, _, g5⟩ := Stk.snoc.1 h1
    have hz := h5 z (by simp)
    have hne := hl r z rfl
    rcases List.mem_append.1 hy with hy | hy
    · have := g5 y hy
      omega
    · simp at hy
      subst hy
      omega
variable (F) in
/-- A beginning of the stack, and the digest of what stands behind it. -/
def Fin' (q : List (Nat × Dg)) (d : Dg) (p : List Dg) : Prop := ∃ a b, p = a ++ b ∧ Stk F q a ∧ 0 < b.length ∧ d = rootF F b ∧ ∀ y ∈ q, b.length < y.1
theorem Stk.fin {q : List (Nat × Dg)} {x : Nat × Dg} {p : List Dg} (h : Stk F (q ++ [x]) p) : Fin' F q x.2 p := by
  obtain ⟨a, b, e, rfl, h1, h2, h3, h4, h5⟩ := Stk.snoc.1 h
  exact ⟨a, b, rfl, h1, by rw [h2, h3]; exact Nat.two_pow_pos e, h4, fun y hy => by rw [h2]; exact h5 y hy⟩
theorem Fin'.step {q : List (Nat × Dg)} {x : Nat × Dg} {d : Dg} {p : List Dg} (h : Fin' F (q ++ [x]) d p) : Fin' F q (nodeF F x.2 d) p := by
  obtain ⟨a, b, rfl, h1, h2, h3, h4⟩ := h
  obtain ⟨a1, a2, e1, rfl, g1, g2, g3, g4, g5⟩ := Stk.snoc.1 h1
  have hx := h4 x (by simp)
  refine ⟨a1, a2 ++ b, by simp, g1, by rw [List.length_append]; omega, ?_, fun y hy => ?_⟩
  · rw [rootF_append (k := e1) (by omega) h2 (by omega), g4, h3]
  · obtain ⟨k, hk⟩ := g1.pow y hy
    have := g5 y hy
    rw [List.length_append]
    rw [hk, g3] at this
    have hlt : e1 < k := (Nat.pow_lt_pow_iff_right (by decide)).1 this
    have : 2 ^ (e1 + 1) ≤ 2 ^ k := Nat.pow_le_pow_right (by decide) hlt
    rw [Nat.pow_succ] at this
    omega
theorem Fin'.root {d : Dg} {p : List Dg} (h : Fin' F [] d p) : d = rootF F p := by
  obtain ⟨a, b, rfl, h1, _, h3, _⟩ := h
  have ha : a = [] := h1
  subst ha
  exact h3
end
end Go.Proofs.Ytkcmacglomdfcaa

/-
  PATHS AND PROOFS, plainly: the turns on the way to a leaf, a leaf's path, what a path comes to; the proof of a beginning.
-/
namespace Go.Proofs.Ytkcmacglomdfcaa

/-- The turns on the way from a row of n to leaf i, the outermost one first (true: left). -/
def turnsN : Nat → Nat → Nat → List Bool
  | 0, _, _ => []
  | f + 1, i, n => if n ≤ 1 then [] else if i < cutN n then true :: turnsN f i (cutN n) else false :: turnsN f (i - cutN n) (n - cutN n)
def turns (i n : Nat) : List Bool := turnsN n i n
theorem turnsN_any : ∀ f i n, n ≤ f → turnsN f i n = turns i n := by
  intro f
  induction f using Nat.strongRecOn with
  | _ f ih =>
    intro i n hn
    by_cases h1 : n ≤ 1
    · have e : ∀ f, turnsN f i n = [] := fun f => by cases f <;> simp [turnsN, h1]
      rw [turns, e, e]
    · have hc := cutN_lt (n := n) (by omega)
      have hp := cutN_pos (n := n) (by omega)
      obtain ⟨g, rfl⟩ : ∃ g, f = g + 1 := ⟨f - 1, by omega⟩
      obtain ⟨m, rfl⟩ : ∃ m, n = m + 1 := ⟨n - 1, by omega⟩
      rw [turns, turnsN, turnsN, if_neg h1, if_neg h1]
      rw [ih g (by omega) _ _ (by omega), ih g (by omega) _ _ (by omega), ih m (by omega) _ _ (by omega), ih m (by omega) _ _ (by omega)]
theorem turns_one {i n : Nat} (h : n ≤ 1) : turns i n = [] := by
  rw [turns]
  cases n <;> simp [turnsN, h]
theorem turns_left {i n : Nat} (h : 2 ≤ n) (hi : i < cutN n) : turns i n = true :: turns i (cutN n) := by
  have hc := cutN_lt h
  rw [← turnsN_any (n - 1 + 1) i n (by omega), turnsN, if_neg (by omega), if_pos hi, turnsN_any _ _ _ (by omega)]
theorem turns_right {i n : Nat} (h : 2 ≤ n) (hi : ¬ i < cutN n) : turns i n = false :: turns (i - cutN n) (n - cutN n) := by
  have hp := cutN_pos h
  rw [← turnsN_any (n - 1 + 1) i n (by omega), turnsN, if_neg (by omega), if_neg hi, turnsN_any _ _ _ (by omega)]
theorem turns_len : ∀ (n i : Nat), (turns i n).length ≤ n := by
  intro n
  induction n using Nat.strongRecOn with
  | _ n ih =>
    intro i
    by_cases h1 : n ≤ 1
    · rw [turns_one h1]; simp
    · have hc := cutN_lt (n := n) (by omega)
      have hp := cutN_pos (n := n) (by omega)
      by_cases hi : i < cutN n
      · rw [turns_left (by omega) hi, List.length_cons]
        have := ih (cutN n) hc i
        omega
      · rw [turns_right (by omega) hi, List.length_cons]
        have := ih (n - cutN n) (by omega) (i - cutN n)
        omega

section
variable (F : Dg → Dg)
/-- A leaf's path, the innermost digest first. -/
def pathN : Nat → List Dg → Nat → List Dg
  | 0, _, _ => []
  | f + 1, l, i => if l.length ≤ 1 then [] else if i < cutN l.length then pathN f (l.take (cutN l.length)) i ++ [rootF F (l.drop (cutN l.length))] else pathN f (l.drop (cutN l.length)) (i - cutN l.length) ++ [rootF F (l.take (cutN l.length))]
def pathF (l : List Dg) (i : Nat) : List Dg := pathN F l.length l i
variable {F}
theorem take_cut_len {l : List Dg} (h : 2 ≤ l.length) : (l.take (cutN l.length)).length = cutN l.length := by
  have := cutN_lt h
  rw [List.length_take]
  omega
theorem pathN_any : ∀ f l i, l.length ≤ f → pathN F f l i = pathF F l i := by
  intro f
  induction f using Nat.strongRecOn with
  | _ f ih =>
    intro l i hn
    by_cases h1 : l.length ≤ 1
    · have e : ∀ f, pathN F f l i = [] := fun f => by cases f <;> simp [pathN, h1]
      rw [pathF, e, e]
    · have hc := cutN_lt (n := l.length) (by omega)
      have hp := cutN_pos (n := l.length) (by omega)
      have h2 := take_cut_len (l := l) (by omega)
      have h3 : (l.drop (cutN l.length)).length = l.length - cutN l.length := by rw [List.length_drop]
      obtain ⟨g, rfl⟩ : ∃ g, f = g + 1 := ⟨f - 1, by omega⟩
      obtain ⟨m, hm⟩ : ∃ m, l.length = m + 1 := ⟨l.length - 1, by omega⟩
      have e2 : pathF F l i = pathN F (m + 1) l i := by rw [pathF, hm]
      rw [e2, pathN, pathN, if_neg h1, if_neg h1]
      rw [ih g (by omega) _ _ (by omega), ih g (by omega) _ _ (by omega), ih m (by omega) _ _ (by omega), ih m (by omega) _ _ (by omega)]
theorem pathF_one {l : List Dg} {i : Nat} (h : l.length ≤ 1) : pathF F l i = [] := by
  rw [pathF]
  cases l.length <;> simp [pathN, h]
theorem pathF_left {l : List Dg} {i : Nat} (h : 2 ≤ l.length) (hi : i < cutN l.length) : pathF F l i = pathF F (l.take (cutN l.length)) i ++ [rootF F (l.drop (cutN l.length))] := by
  have hc := cutN_lt h
  have h2 := take_cut_len h
  rw [← pathN_any (l.length - 1 + 1) l i (by omega), pathN, if_neg (by omega), if_pos hi, pathN_any _ _ _ (by omega)]
theorem pathF_right {l : List Dg} {i : Nat} (h : 2 ≤ l.length) (hi : ¬ i < cutN l.length) : pathF F l i = pathF F (l.drop (cutN l.length)) (i - cutN l.length) ++ [rootF F (l.take (cutN l.length))] := by
  have hp := cutN_pos h
  have h3 : (l.drop (cutN l.length)).length = l.length - cutN l.length := by rw [List.length_drop]
  rw [← pathN_any (l.length - 1 + 1) l i (by omega), pathN, if_neg (by omega), if_neg hi, pathN_any _ _ _ (by omega)]
theorem pathF_len : ∀ (n : Nat) (l : List Dg) (i : Nat), l.length = n → (pathF F l i).length = (turns i n).length := by
  intro n
  induction n using Nat.strongRecOn with
  | _ n ih =>
    intro l i hl
    subst hl
    by_cases h1 : l.length ≤ 1
    · rw [turns_one h1, pathF_one h1]; rfl
    · have hc := cutN_lt (n := l.length) (by omega)
      have hp := cutN_pos (n := l.length) (by omega)
      by_cases hi : i < cutN l.length
      · rw [turns_left (by omega) hi, pathF_left (by omega) hi, List.length_append, ih _ hc _ _ (take_cut_len (by omega))]
        simp
      · rw [turns_right (by omega) hi, pathF_right (by omega) hi, List.length_append, ih (l.length - cutN l.length) (by omega) _ _ (by rw [List.length_drop])]
        simp
theorem pathF_32 (hF : ∀ t, (F t).length = 32) : ∀ (n : Nat) (l : List Dg) (i : Nat), l.length = n → (∀ x ∈ l, x.length = 32) → ∀ x ∈ pathF F l i, x.length = 32 := by
  intro n
  induction n using Nat.strongRecOn with
  | _ n ih =>
    intro l i hl h32
    subst hl
    by_cases h1 : l.length ≤ 1
    · rw [pathF_one h1]; intro x hx; simp at hx
    · have hc := cutN_lt (n := l.length) (by omega)
      have hp := cutN_pos (n := l.length) (by omega)
      have ht : ∀ x ∈ l.take (cutN l.length), x.length = 32 := fun x hx => h32 x (List.mem_of_mem_take hx)
      have hd : ∀ x ∈ l.drop (cutN l.length), x.length = 32 := fun x hx => h32 x (List.mem_of_mem_drop hx)
      intro x hx
      by_cases hi : i < cutN l.length
      · rw [pathF_left (by omega) hi] at hx
        rcases List.mem_append.1 hx with hx | hx
        · exact ih _ hc _ _ (take_cut_len (by omega)) ht x hx
        · simp at hx
          subst hx
          exact rootF_len hF _ _ rfl hd
      · rw [pathF_right (by omega) hi] at hx
        rcases List.mem_append.1 hx with hx | hx
        · exact ih (l.length - cutN l.length) (by omega) _ _ (by rw [List.length_drop]) hd x hx
        · simp at hx
          subst hx
          exact rootF_len hF _ _ rfl ht
variable (F) in
/-- What a digest comes to by turns and a path, the innermost ones first. -/
def comeF : Dg → List Bool → List Dg → Dg
  | d, t :: ts, p :: ps => comeF (if t then nodeF F d p else nodeF F p d) ts ps
  | d, _, _ => d
theorem comeF_snoc : ∀ (ts : List Bool) (ps : List Dg) (d : Dg) (t : Bool) (p : Dg), ts.length = ps.length → comeF F d (ts ++ [t]) (ps ++ [p]) = if t then nodeF F (comeF F d ts ps) p else nodeF F p (comeF F d ts ps)
  | [], [], d, t, p, _ => rfl
  | a :: ts, b :: ps, d, t, p, h => by
    simp only [List.cons_append, comeF]
    exact comeF_snoc ts ps _ t p (by simpa using h)
theorem comeF_32 (hF : ∀ t, (F t).length = 32) : ∀ (ts : List Bool) (ps : List Dg) (d : Dg), d.length = 32 → (comeF F d ts ps).length = 32
  | [], _, d, h => h
  | _ :: _, [], d, h => h
  | t :: ts, p :: ps, d, _ => by
    rw [comeF]
    refine comeF_32 hF ts ps _ ?_
    cases t <;> exact hF _
/-- A leaf's path holds. -/
theorem path_holds : ∀ (n : Nat) (l : List Dg) (i : Nat) (d : Dg), l.length = n → l[i]? = some d → comeF F d (turns i n).reverse (pathF F l i) = rootF F l := by
  intro n
  induction n using Nat.strongRecOn with
  | _ n ih =>
    intro l i d hl hd
    subst hl
    have hil := (List.getElem?_eq_some_iff.1 hd).1
    by_cases h1 : l.length ≤ 1
    · rw [turns_one h1, pathF_one h1]
      match l, hd, h1, hil with
      | [x], hd, _, hil =>
        have hi0 : i = 0 := by simp at hil; omega
        subst hi0
        simp at hd
        rw [rootF_one, hd]
        rfl
    · have hc := cutN_lt (n := l.length) (by omega)
      have hp := cutN_pos (n := l.length) (by omega)
      have hlt := take_cut_len (l := l) (by omega)
      have hld : (l.drop (cutN l.length)).length = l.length - cutN l.length := by rw [List.length_drop]
      rw [rootF_two (l := l) (by omega)]
      by_cases hi : i < cutN l.length
      · rw [turns_left (by omega) hi, pathF_left (by omega) hi, List.reverse_cons, comeF_snoc _ _ _ _ _ (by rw [List.length_reverse, pathF_len _ _ _ hlt])]
        rw [ih _ hc _ _ d hlt (by rw [List.getElem?_take_of_lt hi]; exact hd)]
        rfl
      · rw [turns_right (by omega) hi, pathF_right (by omega) hi, List.reverse_cons, comeF_snoc _ _ _ _ _ (by rw [List.length_reverse, pathF_len _ _ _ hld])]
        rw [ih _ (by omega) _ _ d hld (by rw [List.getElem?_drop, show cutN l.length + (i - cutN l.length) = i by omega]; exact hd)]
        rfl
end
end Go.Proofs.Ytkcmacglomdfcaa

/-
  BEGINNINGS AND CLASHES, plainly: the proof of a beginning, what it comes to; the texts of digests, and what follows where no two unlike ones have one digest.
-/
namespace Go.Proofs.Ytkcmacglomdfcaa

/-- The turns on the way down to where the first m of n end, the outermost one first. -/
def stepsN : Nat → Nat → Nat → List Bool
  | 0, _, _ => []
  | f + 1, m, n => if n ≤ m then [] else if m ≤ cutN n then true :: stepsN f m (cutN n) else false :: stepsN f (m - cutN n) (n - cutN n)
def stepsF (m n : Nat) : List Bool := stepsN n m n
theorem stepsN_any : ∀ f m n, 1 ≤ m → n ≤ f → stepsN f m n = stepsF m n := by
  intro f
  induction f using Nat.strongRecOn with
  | _ f ih =>
    intro m n hm hn
    by_cases h1 : n ≤ m
    · have e : ∀ f, stepsN f m n = [] := fun f => by cases f <;> simp [stepsN, h1]
      rw [stepsF, e, e]
    · have hc := cutN_lt (n := n) (by omega)
      have hp := cutN_pos (n := n) (by omega)
      obtain ⟨g, rfl⟩ : ∃ g, f = g + 1 := ⟨f - 1, by omega⟩
      obtain ⟨k, rfl⟩ : ∃ k, n = k + 1 := ⟨n - 1, by omega⟩
      rw [stepsF, stepsN, stepsN, if_neg h1, if_neg h1]
      by_cases h2 : m ≤ cutN (k + 1)
      · rw [if_pos h2, if_pos h2, ih g (by omega) _ _ hm (by omega), ih k (by omega) _ _ hm (by omega)]
      · rw [if_neg h2, if_neg h2, ih g (by omega) _ _ (by omega) (by omega), ih k (by omega) _ _ (by omega) (by omega)]
theorem stepsF_end {m n : Nat} (h : n ≤ m) : stepsF m n = [] := by
  rw [stepsF]
  cases n <;> simp [stepsN, h]
theorem stepsF_left {m n : Nat} (h0 : 1 ≤ m) (h : m < n) (hk : m ≤ cutN n) : stepsF m n = true :: stepsF m (cutN n) := by
  have hc := cutN_lt (n := n) (by omega)
  rw [← stepsN_any (n - 1 + 1) m n h0 (by omega), stepsN, if_neg (by omega), if_pos hk, stepsN_any _ _ _ h0 (by omega)]
theorem stepsF_right {m n : Nat} (h0 : 1 ≤ m) (h : m < n) (hk : ¬ m ≤ cutN n) : stepsF m n = false :: stepsF (m - cutN n) (n - cutN n) := by
  have hp := cutN_pos (n := n) (by omega)
  rw [← stepsN_any (n - 1 + 1) m n h0 (by omega), stepsN, if_neg (by omega), if_neg hk, stepsN_any _ _ _ (by omega) (by omega)]
theorem stepsF_len : ∀ (n m : Nat), 1 ≤ m → (stepsF m n).length ≤ n := by
  intro n
  induction n using Nat.strongRecOn with
  | _ n ih =>
    intro m hm
    by_cases h1 : n ≤ m
    · rw [stepsF_end h1]; simp
    · have hc := cutN_lt (n := n) (by omega)
      have hp := cutN_pos (n := n) (by omega)
      by_cases hi : m ≤ cutN n
      · rw [stepsF_left hm (by omega) hi, List.length_cons]
        have := ih (cutN n) hc m hm
        omega
      · rw [stepsF_right hm (by omega) hi, List.length_cons]
        have := ih (n - cutN n) (by omega) (m - cutN n) (by omega)
        omega
/-- How many digests a proof has. -/
def needsF (m n : Nat) (all : Bool) : Nat := (stepsF m n).length + if all && (stepsF m n).all id then 0 else 1
theorem needsF_end {m n : Nat} (all : Bool) (h : n ≤ m) : needsF m n all = if all then 0 else 1 := by rw [needsF, stepsF_end h]; simp
theorem needsF_left {m n : Nat} (all : Bool) (h0 : 1 ≤ m) (h : m < n) (hk : m ≤ cutN n) : needsF m n all = 1 + needsF m (cutN n) all := by
  rw [needsF, stepsF_left h0 h hk, needsF]
  simp
  omega
theorem needsF_right {m n : Nat} (all : Bool) (h0 : 1 ≤ m) (h : m < n) (hk : ¬ m ≤ cutN n) : needsF m n all = 1 + needsF (m - cutN n) (n - cutN n) false := by
  rw [needsF, stepsF_right h0 h hk, needsF]
  simp
  omega
theorem needsF_le (m n : Nat) (all : Bool) (h : 1 ≤ m) : needsF m n all ≤ n + 1 := by
  have := stepsF_len n m h
  rw [needsF]
  split <;> omega

/-- How deep the turns are. -/
theorem turns_log : ∀ (e n i : Nat), n ≤ 2 ^ e → (turns i n).length ≤ e := by
  intro e
  induction e with
  | zero =>
    intro n i h
    rw [turns_one (by simpa using h)]
    simp
  | succ e ih =>
    intro n i h
    by_cases h1 : n ≤ 1
    · rw [turns_one h1]; simp
    · obtain ⟨k, hk, h2, h3⟩ := cutN_spec (n := n) (by omega)
      have hke : k < e + 1 := (Nat.pow_lt_pow_iff_right (a := 2) (by decide)).1 (by omega)
      have hle : 2 ^ k ≤ 2 ^ e := Nat.pow_le_pow_right (by decide) (by omega)
      by_cases hi : i < cutN n
      · rw [turns_left (by omega) hi, List.length_cons]
        have := ih (cutN n) i (by omega)
        omega
      · rw [turns_right (by omega) hi, List.length_cons]
        have := ih (n - cutN n) (i - cutN n) (by omega)
        omega

section
variable (F : Dg → Dg)
/-- The proof of a beginning, the innermost digest first. -/
def proveN : Nat → List Dg → Nat → Bool → List Dg
  | 0, _, _, _ => []
  | f + 1, l, m, all => if l.length ≤ m then (if all then [] else [rootF F l]) else if m ≤ cutN l.length then proveN f (l.take (cutN l.length)) m all ++ [rootF F (l.drop (cutN l.length))] else proveN f (l.drop (cutN l.length)) (m - cutN l.length) false ++ [rootF F (l.take (cutN l.length))]
def proveF (l : List Dg) (m : Nat) (all : Bool) : List Dg := proveN F l.length l m all
variable {F}
theorem proveN_any : ∀ f l m all, 1 ≤ m → m ≤ l.length → l.length ≤ f → proveN F f l m all = proveF F l m all := by
  intro f
  induction f using Nat.strongRecOn with
  | _ f ih =>
    intro l m all h0 hml hn
    obtain ⟨g, rfl⟩ : ∃ g, f = g + 1 := ⟨f - 1, by omega⟩
    obtain ⟨k, hk⟩ : ∃ k, l.length = k + 1 := ⟨l.length - 1, by omega⟩
    have e2 : proveF F l m all = proveN F (k + 1) l m all := by rw [proveF, hk]
    rw [e2, proveN, proveN]
    by_cases h1 : l.length ≤ m
    · rw [if_pos h1, if_pos h1]
    · rw [if_neg h1, if_neg h1]
      have hc := cutN_lt (n := l.length) (by omega)
      have hp := cutN_pos (n := l.length) (by omega)
      have h2 := take_cut_len (l := l) (by omega)
      have h3 : (l.drop (cutN l.length)).length = l.length - cutN l.length := by rw [List.length_drop]
      by_cases hi : m ≤ cutN l.length
      · rw [if_pos hi, if_pos hi, ih g (by omega) _ _ _ h0 (by omega) (by omega), ih k (by omega) _ _ _ h0 (by omega) (by omega)]
      · rw [if_neg hi, if_neg hi, ih g (by omega) _ _ _ (by omega) (by omega) (by omega), ih k (by omega) _ _ _ (by omega) (by omega) (by omega)]
theorem proveF_end {l : List Dg} {m : Nat} (all : Bool) (h0 : 1 ≤ m) (h : l.length = m) : proveF F l m all = if all then [] else [rootF F l] := by
  rw [proveF]
  obtain ⟨k, hk⟩ : ∃ k, l.length = k + 1 := ⟨l.length - 1, by omega⟩
  rw [hk, proveN, if_pos (by omega)]
theorem proveF_left {l : List Dg} {m : Nat} (all : Bool) (h0 : 1 ≤ m) (h : m < l.length) (hi : m ≤ cutN l.length) : proveF F l m all = proveF F (l.take (cutN l.length)) m all ++ [rootF F (l.drop (cutN l.length))] := by
  have hc := cutN_lt (n := l.length) (by omega)
  have h2 := take_cut_len (l := l) (by omega)
  rw [← proveN_any (l.length - 1 + 1) l m all h0 (by omega) (by omega), proveN, if_neg (by omega), if_pos hi, proveN_any _ _ _ _ h0 (by omega) (by omega)]
theorem proveF_right {l : List Dg} {m : Nat} (all : Bool) (h0 : 1 ≤ m) (h : m < l.length) (hi : ¬ m ≤ cutN l.length) : proveF F l m all = proveF F (l.drop (cutN l.length)) (m - cutN l.length) false ++ [rootF F (l.take (cutN l.length))] := by
  have hp := cutN_pos (n := l.length) (by omega)
  have h3 : (l.drop (cutN l.length)).length = l.length - cutN l.length := by rw [List.length_drop]
  rw [← proveN_any (l.length - 1 + 1) l m all h0 (by omega) (by omega), proveN, if_neg (by omega), if_neg hi, proveN_any _ _ _ _ (by omega) (by omega) (by omega)]
theorem proveF_len : ∀ (n : Nat) (l : List Dg) (m : Nat) (all : Bool), l.length = n → 1 ≤ m → m ≤ n → (proveF F l m all).length = needsF m n all := by
  intro n
  induction n using Nat.strongRecOn with
  | _ n ih =>
    intro l m all hl h0 hm
    subst hl
    by_cases h1 : l.length ≤ m
    · rw [proveF_end all h0 (by omega), needsF_end all h1]
      cases all <;> rfl
    · have hc := cutN_lt (n := l.length) (by omega)
      have hp := cutN_pos (n := l.length) (by omega)
      have h3 : (l.drop (cutN l.length)).length = l.length - cutN l.length := by rw [List.length_drop]
      by_cases hi : m ≤ cutN l.length
      · rw [needsF_left all h0 (by omega) hi, proveF_left all h0 (by omega) hi, List.length_append, ih _ hc _ _ _ (take_cut_len (by omega)) h0 hi]
        simp
        omega
      · rw [needsF_right all h0 (by omega) hi, proveF_right all h0 (by omega) hi, List.length_append, ih _ (by omega) _ _ _ h3 (by omega) (by omega)]
        simp
        omega
theorem proveF_32 (hF : ∀ t, (F t).length = 32) : ∀ (n : Nat) (l : List Dg) (m : Nat) (all : Bool), l.length = n → 1 ≤ m → m ≤ n → (∀ x ∈ l, x.length = 32) → ∀ x ∈ proveF F l m all, x.length = 32 := by
  intro n
  induction n using Nat.strongRecOn with
  | _ n ih =>
    intro l m all hl h0 hm h32
    subst hl
    by_cases h1 : l.length ≤ m
    · rw [proveF_end all h0 (by omega)]
      cases all
      · intro x hx
        simp at hx
        subst hx
        exact rootF_len hF _ _ rfl h32
      · intro x hx; simp at hx
    · have hc := cutN_lt (n := l.length) (by omega)
      have hp := cutN_pos (n := l.length) (by omega)
      have h3 : (l.drop (cutN l.length)).length = l.length - cutN l.length := by rw [List.length_drop]
      have ht : ∀ x ∈ l.take (cutN l.length), x.length = 32 := fun x hx => h32 x (List.mem_of_mem_take hx)
      have hd : ∀ x ∈ l.drop (cutN l.length), x.length = 32 := fun x hx => h32 x (List.mem_of_mem_drop hx)
      intro x hx
      by_cases hi : m ≤ cutN l.length
      · rw [proveF_left all h0 (by omega) hi] at hx
        rcases List.mem_append.1 hx with hx | hx
        · exact ih _ hc _ _ _ (take_cut_len (by omega)) h0 hi ht x hx
        · simp at hx
          subst hx
          exact rootF_len hF _ _ rfl hd
      · rw [proveF_right all h0 (by omega) hi] at hx
        rcases List.mem_append.1 hx with hx | hx
        · exact ih _ (by omega) _ _ _ h3 (by omega) (by omega) hd x hx
        · simp at hx
          subst hx
          exact rootF_len hF _ _ rfl ht

/-! ### What a proof comes to -/
variable (F) in
def foldE : Dg × Dg → List Bool → List Dg → Dg × Dg
  | x, t :: ts, p :: ps => foldE (if t then (x.1, nodeF F x.2 p) else (nodeF F p x.1, nodeF F p x.2)) ts ps
  | x, _, _ => x
theorem foldE_snoc : ∀ (ts : List Bool) (ps : List Dg) (x : Dg × Dg) (t : Bool) (p : Dg), ts.length = ps.length →
    foldE F x (ts ++ [t]) (ps ++ [p]) = if t then ((foldE F x ts ps).1, nodeF F (foldE F x ts ps).2 p) else (nodeF F p (foldE F x ts ps).1, nodeF F p (foldE F x ts ps).2)
  | [], [], x, t, p, _ => rfl
  | a :: ts, b :: ps, x, t, p, h => by
    simp only [List.cons_append, foldE]
    exact foldE_snoc ts ps _ t p (by simpa using h)
theorem foldE_32 (hF : ∀ t, (F t).length = 32) : ∀ (ts : List Bool) (ps : List Dg) (x : Dg × Dg), x.1.length = 32 → x.2.length = 32 → (foldE F x ts ps).1.length = 32 ∧ (foldE F x ts ps).2.length = 32
  | [], _, x, h, h' => ⟨h, h'⟩
  | _ :: _, [], x, h, h' => ⟨h, h'⟩
  | t :: ts, p :: ps, x, h, h' => by
    rw [foldE]
    cases t
    · exact foldE_32 hF ts ps _ (hF _) (hF _)
    · exact foldE_32 hF ts ps _ h (hF _)
variable (F) in
/-- The texts of digests on the way. -/
def foldT : Dg × Dg → List Bool → List Dg → List Dg
  | x, t :: ts, p :: ps => (if t then [1 :: (x.2 ++ p)] else [1 :: (p ++ x.1), 1 :: (p ++ x.2)]) ++ foldT (if t then (x.1, nodeF F x.2 p) else (nodeF F p x.1, nodeF F p x.2)) ts ps
  | _, _, _ => []
theorem foldT_snoc : ∀ (ts : List Bool) (ps : List Dg) (x : Dg × Dg) (t : Bool) (p : Dg), ts.length = ps.length →
    foldT F x (ts ++ [t]) (ps ++ [p]) = foldT F x ts ps ++ if t then [1 :: ((foldE F x ts ps).2 ++ p)] else [1 :: (p ++ (foldE F x ts ps).1), 1 :: (p ++ (foldE F x ts ps).2)]
  | [], [], x, t, p, _ => by cases t <;> rfl
  | a :: ts, b :: ps, x, t, p, h => by
    simp only [List.cons_append, foldE, foldT]
    rw [foldT_snoc ts ps _ t p (by simpa using h), List.append_assoc]
/-- What stands first. -/
def startE (m n : Nat) (all : Bool) (old : Dg) (ps : List Dg) : Dg := if all && (stepsF m n).all id then old else ps.headD []
def restE (m n : Nat) (all : Bool) (ps : List Dg) : List Dg := if all && (stepsF m n).all id then ps else ps.tail
variable (F) in
def bothF (m n : Nat) (all : Bool) (old : Dg) (ps : List Dg) : Dg × Dg := foldE F (startE m n all old ps, startE m n all old ps) (stepsF m n).reverse (restE m n all ps)
variable (F) in
def bothT (m n : Nat) (all : Bool) (old : Dg) (ps : List Dg) : List Dg := foldT F (startE m n all old ps, startE m n all old ps) (stepsF m n).reverse (restE m n all ps)
theorem restE_len {m n : Nat} {all : Bool} {ps : List Dg} (h : ps.length = needsF m n all) : (restE m n all ps).length = (stepsF m n).length := by
  rw [needsF] at h
  rw [restE]
  split
  · rename_i h1; rw [if_pos h1] at h; omega
  · rename_i h1; rw [if_neg h1] at h; rw [List.length_tail]; omega
theorem bothF_end {m n : Nat} (all : Bool) (old : Dg) (ps : List Dg) (h : n ≤ m) : bothF F m n all old ps = (if all then old else ps.headD [], if all then old else ps.headD []) := by
  rw [bothF, startE, restE, stepsF_end h]
  cases all <;> simp [foldE]
theorem bothT_end {m n : Nat} (all : Bool) (old : Dg) (ps : List Dg) (h : n ≤ m) : bothT F m n all old ps = [] := by
  rw [bothT, stepsF_end h]
  simp [foldT]
theorem start_left {m n : Nat} (all : Bool) (old : Dg) (ps : List Dg) (p : Dg) (h0 : 1 ≤ m) (h : m < n) (hk : m ≤ cutN n) (hl : ps.length = needsF m (cutN n) all) :
    startE m n all old (ps ++ [p]) = startE m (cutN n) all old ps ∧ restE m n all (ps ++ [p]) = restE m (cutN n) all ps ++ [p] := by
  simp only [startE, restE, stepsF_left h0 h hk, List.all_cons, id, Bool.true_and]
  rw [needsF] at hl
  by_cases hb : (all && (stepsF m (cutN n)).all id) = true
  · simp [hb]
  · rw [if_neg hb] at hl
    rw [if_neg hb, if_neg hb, if_neg hb, if_neg hb]
    cases ps with
    | nil => simp at hl
    | cons x r => exact ⟨rfl, rfl⟩
theorem start_right {m n : Nat} (all : Bool) (old : Dg) (ps : List Dg) (p : Dg) (h0 : 1 ≤ m) (h : m < n) (hk : ¬ m ≤ cutN n) (hl : ps.length = needsF (m - cutN n) (n - cutN n) false) :
    startE m n all old (ps ++ [p]) = startE (m - cutN n) (n - cutN n) false old ps ∧ restE m n all (ps ++ [p]) = restE (m - cutN n) (n - cutN n) false ps ++ [p] := by
  simp only [startE, restE, stepsF_right h0 h hk, List.all_cons, id, Bool.false_and, Bool.and_false]
  rw [needsF] at hl
  cases ps with
  | nil => simp at hl
  | cons x r => exact ⟨rfl, rfl⟩
theorem bothF_left {m n : Nat} (all : Bool) (old : Dg) (ps : List Dg) (p : Dg) (h0 : 1 ≤ m) (h : m < n) (hk : m ≤ cutN n) (hl : ps.length = needsF m (cutN n) all) :
    bothF F m n all old (ps ++ [p]) = ((bothF F m (cutN n) all old ps).1, nodeF F (bothF F m (cutN n) all old ps).2 p) := by
  obtain ⟨e1, e2⟩ := start_left all old ps p h0 h hk hl
  rw [bothF, e1, e2, stepsF_left h0 h hk, List.reverse_cons, foldE_snoc _ _ _ _ _ (by rw [List.length_reverse, restE_len hl])]
  rfl
theorem bothT_left {m n : Nat} (all : Bool) (old : Dg) (ps : List Dg) (p : Dg) (h0 : 1 ≤ m) (h : m < n) (hk : m ≤ cutN n) (hl : ps.length = needsF m (cutN n) all) :
    bothT F m n all old (ps ++ [p]) = bothT F m (cutN n) all old ps ++ [1 :: ((bothF F m (cutN n) all old ps).2 ++ p)] := by
  obtain ⟨e1, e2⟩ := start_left all old ps p h0 h hk hl
  rw [bothT, e1, e2, stepsF_left h0 h hk, List.reverse_cons, foldT_snoc _ _ _ _ _ (by rw [List.length_reverse, restE_len hl])]
  rfl
theorem bothF_right {m n : Nat} (all : Bool) (old : Dg) (ps : List Dg) (p : Dg) (h0 : 1 ≤ m) (h : m < n) (hk : ¬ m ≤ cutN n) (hl : ps.length = needsF (m - cutN n) (n - cutN n) false) :
    bothF F m n all old (ps ++ [p]) = (nodeF F p (bothF F (m - cutN n) (n - cutN n) false old ps).1, nodeF F p (bothF F (m - cutN n) (n - cutN n) false old ps).2) := by
  obtain ⟨e1, e2⟩ := start_right all old ps p h0 h hk hl
  rw [bothF, e1, e2, stepsF_right h0 h hk, List.reverse_cons, foldE_snoc _ _ _ _ _ (by rw [List.length_reverse, restE_len hl])]
  rfl
theorem bothT_right {m n : Nat} (all : Bool) (old : Dg) (ps : List Dg) (p : Dg) (h0 : 1 ≤ m) (h : m < n) (hk : ¬ m ≤ cutN n) (hl : ps.length = needsF (m - cutN n) (n - cutN n) false) :
    bothT F m n all old (ps ++ [p]) = bothT F (m - cutN n) (n - cutN n) false old ps ++ [1 :: (p ++ (bothF F (m - cutN n) (n - cutN n) false old ps).1), 1 :: (p ++ (bothF F (m - cutN n) (n - cutN n) false old ps).2)] := by
  obtain ⟨e1, e2⟩ := start_right all old ps p h0 h hk hl
  rw [bothT, e1, e2, stepsF_right h0 h hk, List.reverse_cons, foldT_snoc _ _ _ _ _ (by rw [List.length_reverse, restE_len hl])]
  rfl
theorem bothF_32 (hF : ∀ t, (F t).length = 32) {m n : Nat} {all : Bool} {old : Dg} {ps : List Dg} (h0 : old.length = 32) (hp : ∀ x ∈ ps, x.length = 32) (hl : ps.length = needsF m n all) : (bothF F m n all old ps).1.length = 32 ∧ (bothF F m n all old ps).2.length = 32 := by
  have h : (startE m n all old ps).length = 32 := by
    rw [needsF] at hl
    rw [startE]
    split
    · exact h0
    · rename_i h1
      rw [if_neg h1] at hl
      cases ps with
      | nil => simp at hl
      | cons x r => exact hp x (by simp)
  exact foldE_32 hF _ _ _ h h
theorem rootF_front {l : List Dg} {m : Nat} (hm : m ≤ l.length) (h2 : 2 ≤ l.length) (hk : ¬ m ≤ cutN l.length) :
    rootF F (l.take m) = nodeF F (rootF F (l.take (cutN l.length))) (rootF F ((l.drop (cutN l.length)).take (m - cutN l.length))) := by
  obtain ⟨k, hc, h3, h4⟩ := cutN_spec h2
  have e : l.take m = l.take (cutN l.length) ++ (l.drop (cutN l.length)).take (m - cutN l.length) := by
    rw [show m = cutN l.length + (m - cutN l.length) by omega, List.take_add, Nat.add_sub_cancel_left]
  rw [e, rootF_append (k := k) (by rw [take_cut_len h2, hc]) (by rw [List.length_take, List.length_drop]; omega) (by rw [List.length_take, List.length_drop]; omega)]
theorem take_front {l : List Dg} {m : Nat} (hk : m ≤ cutN l.length) : (l.take (cutN l.length)).take m = l.take m := by
  rw [List.take_take, Nat.min_eq_left hk]
/-- A beginning's proof extends. -/
theorem begins_both : ∀ (n : Nat) (l : List Dg) (m : Nat) (all : Bool) (old : Dg), l.length = n → 1 ≤ m → m ≤ n → (all = true → old = rootF F (l.take m)) →
    bothF F m n all old (proveF F l m all) = (rootF F (l.take m), rootF F l) := by
  intro n
  induction n using Nat.strongRecOn with
  | _ n ih =>
    intro l m all old hl h0 hm ho
    subst hl
    by_cases h1 : l.length ≤ m
    · have e : l.take m = l := List.take_of_length_le h1
      rw [bothF_end all old _ h1, proveF_end all h0 (by omega), e]
      cases all
      · rfl
      · have := ho rfl
        rw [e] at this
        rw [this]
        rfl
    · have hc := cutN_lt (n := l.length) (by omega)
      have hp := cutN_pos (n := l.length) (by omega)
      have h3 : (l.drop (cutN l.length)).length = l.length - cutN l.length := by rw [List.length_drop]
      have ht := take_cut_len (l := l) (by omega)
      by_cases hi : m ≤ cutN l.length
      · rw [proveF_left all h0 (by omega) hi, bothF_left all old _ _ h0 (by omega) hi (proveF_len _ _ _ _ ht h0 hi)]
        rw [ih _ hc _ m all old ht h0 hi (by rw [take_front hi]; exact ho), take_front hi, ← rootF_two (by omega)]
      · rw [proveF_right all h0 (by omega) hi, bothF_right all old _ _ h0 (by omega) hi (proveF_len _ _ _ _ h3 (by omega) (by omega))]
        rw [ih _ (by omega) _ (m - cutN l.length) false old h3 (by omega) (by omega) (fun h => by cases h), ← rootF_front hm (by omega) hi, ← rootF_two (by omega)]

/-! ### Texts -/
variable (F) in
def textsN : Nat → List Dg → List Dg
  | 0, _ => []
  | f + 1, l => if l.length < 2 then [] else textsN f (l.take (cutN l.length)) ++ textsN f (l.drop (cutN l.length)) ++ [1 :: (rootF F (l.take (cutN l.length)) ++ rootF F (l.drop (cutN l.length)))]
variable (F) in
def textsF (l : List Dg) : List Dg := textsN F l.length l
theorem textsN_any : ∀ f l, l.length ≤ f → textsN F f l = textsF F l := by
  intro f
  induction f using Nat.strongRecOn with
  | _ f ih =>
    intro l hn
    by_cases h1 : l.length < 2
    · have e : ∀ f, textsN F f l = [] := fun f => by cases f <;> simp [textsN, h1]
      rw [textsF, e, e]
    · have hc := cutN_lt (n := l.length) (by omega)
      have hp := cutN_pos (n := l.length) (by omega)
      have h2 := take_cut_len (l := l) (by omega)
      have h3 : (l.drop (cutN l.length)).length = l.length - cutN l.length := by rw [List.length_drop]
      obtain ⟨g, rfl⟩ : ∃ g, f = g + 1 := ⟨f - 1, by omega⟩
      obtain ⟨m, hm⟩ : ∃ m, l.length = m + 1 := ⟨l.length - 1, by omega⟩
      have e2 : textsF F l = textsN F (m + 1) l := by rw [textsF, hm]
      rw [e2, textsN, textsN, if_neg h1, if_neg h1]
      rw [ih g (by omega) _ (by omega), ih g (by omega) _ (by omega), ih m (by omega) _ (by omega), ih m (by omega) _ (by omega)]
theorem textsF_small {l : List Dg} (h : l.length < 2) : textsF F l = [] := by
  rw [textsF]
  cases hl : l.length with
  | zero => rfl
  | succ n => rw [textsN, if_pos h]
theorem textsF_two {l : List Dg} (h : 2 ≤ l.length) : textsF F l = textsF F (l.take (cutN l.length)) ++ textsF F (l.drop (cutN l.length)) ++ [1 :: (rootF F (l.take (cutN l.length)) ++ rootF F (l.drop (cutN l.length)))] := by
  have hc := cutN_lt h
  have hp := cutN_pos h
  have h2 := take_cut_len h
  have h3 : (l.drop (cutN l.length)).length = l.length - cutN l.length := by rw [List.length_drop]
  rw [← textsN_any (l.length - 1 + 1) l (by omega), textsN, if_neg (by omega), textsN_any _ _ (by omega), textsN_any _ _ (by omega)]
/-- How many texts there are, and how long each is. -/
theorem textsF_len : ∀ (n : Nat) (l : List Dg), l.length = n → (textsF F l).length ≤ n := by
  intro n
  induction n using Nat.strongRecOn with
  | _ n ih =>
    intro l hl
    subst hl
    by_cases h1 : l.length < 2
    · rw [textsF_small h1]; simp
    · have hc := cutN_lt (n := l.length) (by omega)
      have hp := cutN_pos (n := l.length) (by omega)
      have h2 := take_cut_len (l := l) (by omega)
      have h3 : (l.drop (cutN l.length)).length = l.length - cutN l.length := by rw [List.length_drop]
      rw [textsF_two (by omega)]
      have a1 := ih _ hc _ h2
      have a2 := ih _ (by omega) _ h3
      have a3 : ∀ (n : Nat) (l : List Dg), l.length = n → 1 ≤ n → (textsF F l).length + 1 ≤ n := by
        intro n
        induction n using Nat.strongRecOn with
        | _ n ih =>
          intro l hl hn
          subst hl
          by_cases h1 : l.length < 2
          · rw [textsF_small h1]; simpa using hn
          · have hc := cutN_lt (n := l.length) (by omega)
            have hp := cutN_pos (n := l.length) (by omega)
            have h2 := take_cut_len (l := l) (by omega)
            have h3 : (l.drop (cutN l.length)).length = l.length - cutN l.length := by rw [List.length_drop]
            rw [textsF_two (by omega)]
            have a1 := ih _ hc _ h2 (by omega)
            have a2 := ih _ (by omega) _ h3 (by omega)
            simp only [List.length_append, List.length_cons, List.length_nil]
            omega
      have a4 := a3 _ _ h2 (by omega)
      have a5 := a3 _ _ h3 (by omega)
      simp only [List.length_append, List.length_cons, List.length_nil]
      omega
theorem textsF_65 (hF : ∀ t, (F t).length = 32) : ∀ (n : Nat) (l : List Dg), l.length = n → (∀ x ∈ l, x.length = 32) → ∀ t ∈ textsF F l, t.length = 65 := by
  intro n
  induction n using Nat.strongRecOn with
  | _ n ih =>
    intro l hl h32
    subst hl
    by_cases h1 : l.length < 2
    · rw [textsF_small h1]; intro t ht; simp at ht
    · have hc := cutN_lt (n := l.length) (by omega)
      have hp := cutN_pos (n := l.length) (by omega)
      have h2 := take_cut_len (l := l) (by omega)
      have h3 : (l.drop (cutN l.length)).length = l.length - cutN l.length := by rw [List.length_drop]
      have ht : ∀ x ∈ l.take (cutN l.length), x.length = 32 := fun x hx => h32 x (List.mem_of_mem_take hx)
      have hd : ∀ x ∈ l.drop (cutN l.length), x.length = 32 := fun x hx => h32 x (List.mem_of_mem_drop hx)
      rw [textsF_two (by omega)]
      intro t h
      rcases List.mem_append.1 h with h | h
      · rcases List.mem_append.1 h with h | h
        · exact ih _ hc _ h2 ht t h
        · exact ih _ (by omega) _ h3 hd t h
      · simp at h
        subst h
        simp [rootF_len hF _ _ rfl ht, rootF_len hF _ _ rfl hd]

/-- No two unlike ones of these texts have one digest. -/
def Clear (F : Dg → Dg) (T : List Dg) : Prop := ∀ t ∈ T, ∀ t' ∈ T, F t = F t' → t = t'
theorem cons_app_inj {a b c d : Dg} (h : (1 : UInt8) :: (a ++ b) = 1 :: (c ++ d)) (hl : a.length = c.length) : a = c ∧ b = d :=
  List.append_inj (List.cons.inj h).2 hl
theorem unlike_law (hF : ∀ t, (F t).length = 32) {T : List Dg} (hT : Clear F T) : ∀ (n : Nat) (a b : List Dg), a.length = n → b.length = n → (∀ x ∈ a, x.length = 32) → (∀ x ∈ b, x.length = 32) →
    (∀ t ∈ textsF F a, t ∈ T) → (∀ t ∈ textsF F b, t ∈ T) → rootF F a = rootF F b → a = b := by
  intro n
  induction n using Nat.strongRecOn with
  | _ n ih =>
    intro a b ha hb a32 b32 aT bT hr
    match n, ha, hb with
    | 0, ha, hb => rw [List.eq_nil_of_length_eq_zero ha, List.eq_nil_of_length_eq_zero hb]
    | 1, ha, hb =>
      match a, b, ha, hb, hr with
      | [x], [y], _, _, hr => rw [rootF_one, rootF_one] at hr; rw [hr]
    | n + 2, ha, hb =>
      have hc := cutN_lt (n := n + 2) (by omega)
      have hp := cutN_pos (n := n + 2) (by omega)
      have ha1 : (a.take (cutN (n + 2))).length = cutN (n + 2) := by rw [List.length_take]; omega
      have ha2 : (a.drop (cutN (n + 2))).length = n + 2 - cutN (n + 2) := by rw [List.length_drop]; omega
      have hb1 : (b.take (cutN (n + 2))).length = cutN (n + 2) := by rw [List.length_take]; omega
      have hb2 : (b.drop (cutN (n + 2))).length = n + 2 - cutN (n + 2) := by rw [List.length_drop]; omega
      have at32 : ∀ x ∈ a.take (cutN (n + 2)), x.length = 32 := fun x hx => a32 x (List.mem_of_mem_take hx)
      have ad32 : ∀ x ∈ a.drop (cutN (n + 2)), x.length = 32 := fun x hx => a32 x (List.mem_of_mem_drop hx)
      have bt32 : ∀ x ∈ b.take (cutN (n + 2)), x.length = 32 := fun x hx => b32 x (List.mem_of_mem_take hx)
      have bd32 : ∀ x ∈ b.drop (cutN (n + 2)), x.length = 32 := fun x hx => b32 x (List.mem_of_mem_drop hx)
      rw [rootF_two (l := a) (by omega), rootF_two (l := b) (by omega), ha, hb] at hr
      rw [textsF_two (l := a) (by omega), ha] at aT
      rw [textsF_two (l := b) (by omega), hb] at bT
      have h1 := hT _ (aT _ (by simp)) _ (bT _ (by simp)) hr
      obtain ⟨e1, e2⟩ := cons_app_inj h1 (by rw [rootF_len hF _ _ rfl at32, rootF_len hF _ _ rfl bt32])
      have r1 := ih _ hc _ _ ha1 hb1 at32 bt32 (fun t h => aT t (by simp [h])) (fun t h => bT t (by simp [h])) e1
      have r2 := ih _ (by omega) _ _ ha2 hb2 ad32 bd32 (fun t h => aT t (by simp [h])) (fun t h => bT t (by simp [h])) e2
      rw [← List.take_append_drop (cutN (n + 2)) a, ← List.take_append_drop (cutN (n + 2)) b, r1, r2]
variable (F) in
/-- The texts of digests on a path. -/
def comeT : Dg → List Bool → List Dg → List Dg
  | d, t :: ts, p :: ps => (if t then 1 :: (d ++ p) else 1 :: (p ++ d)) :: comeT (if t then nodeF F d p else nodeF F p d) ts ps
  | _, _, _ => []
theorem comeT_snoc : ∀ (ts : List Bool) (ps : List Dg) (d : Dg) (t : Bool) (p : Dg), ts.length = ps.length →
    comeT F d (ts ++ [t]) (ps ++ [p]) = comeT F d ts ps ++ [if t then 1 :: (comeF F d ts ps ++ p) else 1 :: (p ++ comeF F d ts ps)]
  | [], [], d, t, p, _ => by cases t <;> rfl
  | a :: ts, b :: ps, d, t, p, h => by
    simp only [List.cons_append, comeF, comeT]
    rw [comeT_snoc ts ps _ t p (by simpa using h)]
theorem comeT_len : ∀ (ts : List Bool) (ps : List Dg) (d : Dg), ts.length = ps.length → (comeT F d ts ps).length = ts.length
  | [], _, _, _ => by cases ‹List Dg› <;> rfl
  | t :: ts, p :: ps, d, h => by
    rw [comeT, List.length_cons, comeT_len ts ps _ (by simpa using h)]
    rfl
theorem snoc_of_len {α : Type} {n : Nat} {l : List α} (h : l.length = n + 1) : ∃ r x, l = r ++ [x] ∧ r.length = n := by
  rcases List.eq_nil_or_concat l with h0 | ⟨r, x, h0⟩
  · rw [h0] at h; simp at h
  · rw [List.concat_eq_append] at h0
    exact ⟨r, x, h0, by rw [h0] at h; simpa using h⟩
theorem alone_law (hF : ∀ t, (F t).length = 32) {T : List Dg} (hT : Clear F T) : ∀ (n : Nat) (l : List Dg) (i : Nat) (d x : Dg) (ps : List Dg), l.length = n → (∀ x ∈ l, x.length = 32) → d.length = 32 → (∀ x ∈ ps, x.length = 32) →
    ps.length = (turns i n).length → l[i]? = some x → (∀ t ∈ textsF F l, t ∈ T) → (∀ t ∈ comeT F d (turns i n).reverse ps, t ∈ T) → comeF F d (turns i n).reverse ps = rootF F l → d = x := by
  intro n
  induction n using Nat.strongRecOn with
  | _ n ih =>
    intro l i d x ps hl h32 hd p32 hpl hx lT cT hr
    subst hl
    have hil := (List.getElem?_eq_some_iff.1 hx).1
    by_cases h1 : l.length ≤ 1
    · rw [turns_one h1] at hr
      match l, hx, h1, hil with
      | [y], hx, _, hil =>
        have hi0 : i = 0 := by simp at hil; omega
        subst hi0
        simp at hx
        rw [rootF_one] at hr
        rw [← hx, ← hr]
        rfl
    · have hc := cutN_lt (n := l.length) (by omega)
      have hp := cutN_pos (n := l.length) (by omega)
      have h2 := take_cut_len (l := l) (by omega)
      have h3 : (l.drop (cutN l.length)).length = l.length - cutN l.length := by rw [List.length_drop]
      have ht : ∀ x ∈ l.take (cutN l.length), x.length = 32 := fun x hx => h32 x (List.mem_of_mem_take hx)
      have hdd : ∀ x ∈ l.drop (cutN l.length), x.length = 32 := fun x hx => h32 x (List.mem_of_mem_drop hx)
      rw [textsF_two (by omega)] at lT
      rw [rootF_two (l := l) (by omega)] at hr
      by_cases hi : i < cutN l.length
      · rw [turns_left (by omega) hi] at hpl cT hr
        obtain ⟨rs, p, rfl, hrl⟩ := snoc_of_len hpl
        have hrl' : (turns i (cutN l.length)).reverse.length = rs.length := by rw [List.length_reverse, hrl]
        rw [List.reverse_cons, comeT_snoc _ _ _ _ _ hrl'] at cT
        rw [List.reverse_cons, comeF_snoc _ _ _ _ _ hrl'] at hr
        have h4 := hT _ (cT _ (by simp)) _ (lT _ (by simp)) hr
        obtain ⟨e1, _⟩ := cons_app_inj h4 (by rw [comeF_32 hF _ _ _ hd, rootF_len hF _ _ rfl ht])
        exact ih _ hc _ i d x rs h2 ht hd (fun y hy => p32 y (by simp [hy])) hrl (by rw [List.getElem?_take_of_lt hi]; exact hx) (fun t h => lT t (by simp [h])) (fun t h => cT t (by simp [h])) e1
      · rw [turns_right (by omega) hi] at hpl cT hr
        obtain ⟨rs, p, rfl, hrl⟩ := snoc_of_len hpl
        have hrl' : (turns (i - cutN l.length) (l.length - cutN l.length)).reverse.length = rs.length := by rw [List.length_reverse, hrl]
        rw [List.reverse_cons, comeT_snoc _ _ _ _ _ hrl'] at cT
        rw [List.reverse_cons, comeF_snoc _ _ _ _ _ hrl'] at hr
        have h4 := hT _ (cT _ (by simp)) _ (lT _ (by simp)) hr
        obtain ⟨_, e1⟩ := cons_app_inj h4 (by rw [p32 p (by simp), rootF_len hF _ _ rfl ht])
        exact ih _ (by omega) _ (i - cutN l.length) d x rs h3 hdd hd (fun y hy => p32 y (by simp [hy])) hrl (by rw [List.getElem?_drop, show cutN l.length + (i - cutN l.length) = i by omega]; exact hx) (fun t h => lT t (by simp [h])) (fun t h => cT t (by simp [h])) e1
theorem old_law (hF : ∀ t, (F t).length = 32) {T : List Dg} (hT : Clear F T) : ∀ (n : Nat) (l : List Dg) (m : Nat) (all : Bool) (old : Dg) (ps : List Dg), l.length = n → (∀ x ∈ l, x.length = 32) → old.length = 32 → (∀ x ∈ ps, x.length = 32) →
    1 ≤ m → m ≤ n → ps.length = needsF m n all → (∀ t ∈ textsF F l, t ∈ T) → (∀ t ∈ bothT F m n all old ps, t ∈ T) → (bothF F m n all old ps).2 = rootF F l → (bothF F m n all old ps).1 = rootF F (l.take m) := by
  intro n
  induction n using Nat.strongRecOn with
  | _ n ih =>
    intro l m all old ps hl h32 hd p32 h0 hm hpl lT cT hr
    subst hl
    by_cases h1 : l.length ≤ m
    · rw [bothF_end all old ps h1] at hr ⊢
      rw [List.take_of_length_le h1, ← hr]
    · have hc := cutN_lt (n := l.length) (by omega)
      have hp := cutN_pos (n := l.length) (by omega)
      have h2 := take_cut_len (l := l) (by omega)
      have h3 : (l.drop (cutN l.length)).length = l.length - cutN l.length := by rw [List.length_drop]
      have ht : ∀ x ∈ l.take (cutN l.length), x.length = 32 := fun x hx => h32 x (List.mem_of_mem_take hx)
      have hdd : ∀ x ∈ l.drop (cutN l.length), x.length = 32 := fun x hx => h32 x (List.mem_of_mem_drop hx)
      rw [textsF_two (by omega)] at lT
      rw [rootF_two (l := l) (by omega)] at hr
      by_cases hi : m ≤ cutN l.length
      · rw [needsF_left all h0 (by omega) hi, Nat.add_comm] at hpl
        obtain ⟨rs, p, rfl, hrl⟩ := snoc_of_len hpl
        have r32 : ∀ x ∈ rs, x.length = 32 := fun y hy => p32 y (by simp [hy])
        rw [bothT_left all old rs p h0 (by omega) hi hrl] at cT
        rw [bothF_left all old rs p h0 (by omega) hi hrl] at hr ⊢
        have h4 := hT _ (cT _ (by simp)) _ (lT _ (by simp)) hr
        obtain ⟨e1, _⟩ := cons_app_inj h4 (by rw [(bothF_32 hF hd r32 hrl).2, rootF_len hF _ _ rfl ht])
        have := ih _ hc _ m all old rs h2 ht hd r32 h0 hi hrl (fun t h => lT t (by simp [h])) (fun t h => cT t (by simp [h])) e1
        rw [take_front hi] at this
        exact this
      · rw [needsF_right all h0 (by omega) hi, Nat.add_comm] at hpl
        obtain ⟨rs, p, rfl, hrl⟩ := snoc_of_len hpl
        have r32 : ∀ x ∈ rs, x.length = 32 := fun y hy => p32 y (by simp [hy])
        rw [bothT_right all old rs p h0 (by omega) hi hrl] at cT
        rw [bothF_right all old rs p h0 (by omega) hi hrl] at hr ⊢
        have h4 := hT _ (cT _ (by simp)) _ (lT _ (by simp)) hr
        obtain ⟨e0, e1⟩ := cons_app_inj h4 (by rw [p32 p (by simp), rootF_len hF _ _ rfl ht])
        have := ih _ (by omega) _ (m - cutN l.length) false old rs h3 hdd hd r32 (by omega) (by omega) hrl (fun t h => lT t (by simp [h])) (fun t h => cT t (by simp [h])) e1
        rw [rootF_front hm (by omega) hi, ← this, e0]
end
end Go.Proofs.Ytkcmacglomdfcaa
