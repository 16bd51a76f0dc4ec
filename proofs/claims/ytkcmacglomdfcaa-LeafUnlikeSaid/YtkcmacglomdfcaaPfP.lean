/-
  PATHS AND PROOFS, plainly: the turns on the way to a leaf, a leaf's path, what a path comes to; the proof of a beginning.
-/
import Derived.Test.YtkcmacglomdfcaaLfP
namespace Go.Proofs.Ytkcmacglomdfcaa

/-- The turns on the way from a row of n to leaf i, the outermost one first (true: left). -/
def turnsN : Nat → Nat → Nat → List Bool
  | 0, _, _ => []
  | f + 1, i, n => if n ≤ 1 then [] else if i < cutN n then true :: turnsN f i (cutN n) else false :: turnsN f (i - cutN n) (n - cutN n)
def turns (i n : Nat) : List Bool := turnsN n i n
theorem turnsN_any : ∀ f i n, n ≤ f → turnsN f i n = turns i n := by
  intro f
  induction f using Nat.strongRecOn with
  | _ f ih =>
    intro i n hn
    by_cases h1 : n ≤ 1
    · have e : ∀ f, turnsN f i n = [] := fun f => by cases f <;> simp [turnsN, h1]
      rw [turns, e, e]
    · have hc := cutN_lt (n := n) (by omega)
      have hp := cutN_pos (n := n) (by omega)
      obtain ⟨g, rfl⟩ : ∃ g, f = g + 1 := ⟨f - 1, by omega⟩
      obtain ⟨m, rfl⟩ : ∃ m, n = m + 1 := ⟨n - 1, by omega⟩
      rw [turns, turnsN, turnsN, if_neg h1, if_neg h1]
      rw [ih g (by omega) _ _ (by omega), ih g (by omega) _ _ (by omega), ih m (by omega) _ _ (by omega), ih m (by omega) _ _ (by omega)]
theorem turns_one {i n : Nat} (h : n ≤ 1) : turns i n = [] := by
  rw [turns]
  cases n <;> simp [turnsN, h]
theorem turns_left {i n : Nat} (h : 2 ≤ n) (hi : i < cutN n) : turns i n = true :: turns i (cutN n) := by
  have hc := cutN_lt h
  rw [← turnsN_any (n - 1 + 1) i n (by omega), turnsN, if_neg (by omega), if_pos hi, turnsN_any _ _ _ (by omega)]
theorem turns_right {i n : Nat} (h : 2 ≤ n) (hi : ¬ i < cutN n) : turns i n = false :: turns (i - cutN n) (n - cutN n) := by
  have hp := cutN_pos h
  rw [← turnsN_any (n - 1 + 1) i n (by omega), turnsN, if_neg (by omega), if_neg hi, turnsN_any _ _ _ (by omega)]
theorem turns_len : ∀ (n i : Nat), (turns i n).length ≤ n := by
  intro n
  induction n using Nat.strongRecOn with
  | _ n ih =>
    intro i
    by_cases h1 : n ≤ 1
    · rw [turns_one h1]; simp
    · have hc := cutN_lt (n := n) (by omega)
      have hp := cutN_pos (n := n) (by omega)
      by_cases hi : i < cutN n
      · rw [turns_left (by omega) hi, List.length_cons]
        have := ih (cutN n) hc i
        omega
      · rw [turns_right (by omega) hi, List.length_cons]
        have := ih (n - cutN n) (by omega) (i - cutN n)
        omega

section
variable (F : Dg → Dg)
/-- A leaf's path, the innermost digest first. -/
def pathN : Nat → List Dg → Nat → List Dg
  | 0, _, _ => []
  | f + 1, l, i => if l.length ≤ 1 then [] else if i < cutN l.length then pathN f (l.take (cutN l.length)) i ++ [rootF F (l.drop (cutN l.length))] else pathN f (l.drop (cutN l.length)) (i - cutN l.length) ++ [rootF F (l.take (cutN l.length))]
def pathF (l : List Dg) (i : Nat) : List Dg := pathN F l.length l i
variable {F}
theorem take_cut_len {l : List Dg} (h : 2 ≤ l.length) : (l.take (cutN l.length)).length = cutN l.length := by
  have := cutN_lt h
  rw [List.length_take]
  omega
theorem pathN_any : ∀ f l i, l.length ≤ f → pathN F f l i = pathF F l i := by
  intro f
  induction f using Nat.strongRecOn with
  | _ f ih =>
    intro l i hn
    by_cases h1 : l.length ≤ 1
    · have e : ∀ f, pathN F f l i = [] := fun f => by cases f <;> simp [pathN, h1]
      rw [pathF, e, e]
    · have hc := cutN_lt (n := l.length) (by omega)
      have hp := cutN_pos (n := l.length) (by omega)
      have h2 := take_cut_len (l := l) (by omega)
      have h3 : (l.drop (cutN l.length)).length = l.length - cutN l.length := by rw [List.length_drop]
      obtain ⟨g, rfl⟩ : ∃ g, f = g + 1 := ⟨f - 1, by omega⟩
      obtain ⟨m, hm⟩ : ∃ m, l.length = m + 1 := ⟨l.length - 1, by omega⟩
      have e2 : pathF F l i = pathN F (m + 1) l i := by rw [pathF, hm]
      rw [e2, pathN, pathN, if_neg h1, if_neg h1]
      rw [ih g (by omega) _ _ (by omega), ih g (by omega) _ _ (by omega), ih m (by omega) _ _ (by omega), ih m (by omega) _ _ (by omega)]
theorem pathF_one {l : List Dg} {i : Nat} (h : l.length ≤ 1) : pathF F l i = [] := by
  rw [pathF]
  cases l.length <;> simp [pathN, h]
theorem pathF_left {l : List Dg} {i : Nat} (h : 2 ≤ l.length) (hi : i < cutN l.length) : pathF F l i = pathF F (l.take (cutN l.length)) i ++ [rootF F (l.drop (cutN l.length))] := by
  have hc := cutN_lt h
  have h2 := take_cut_len h
  rw [← pathN_any (l.length - 1 + 1) l i (by omega), pathN, if_neg (by omega), if_pos hi, pathN_any _ _ _ (by omega)]
theorem pathF_right {l : List Dg} {i : Nat} (h : 2 ≤ l.length) (hi : ¬ i < cutN l.length) : pathF F l i = pathF F (l.drop (cutN l.length)) (i - cutN l.length) ++ [rootF F (l.take (cutN l.length))] := by
  have hp := cutN_pos h
  have h3 : (l.drop (cutN l.length)).length = l.length - cutN l.length := by rw [List.length_drop]
  rw [← pathN_any (l.length - 1 + 1) l i (by omega), pathN, if_neg (by omega), if_neg hi, pathN_any _ _ _ (by omega)]
theorem pathF_len : ∀ (n : Nat) (l : List Dg) (i : Nat), l.length = n → (pathF F l i).length = (turns i n).length := by
  intro n
  induction n using Nat.strongRecOn with
  | _ n ih =>
    intro l i hl
    subst hl
    by_cases h1 : l.length ≤ 1
    · rw [turns_one h1, pathF_one h1]; rfl
    · have hc := cutN_lt (n := l.length) (by omega)
      have hp := cutN_pos (n := l.length) (by omega)
      by_cases hi : i < cutN l.length
      · rw [turns_left (by omega) hi, pathF_left (by omega) hi, List.length_append, ih _ hc _ _ (take_cut_len (by omega))]
        simp
      · rw [turns_right (by omega) hi, pathF_right (by omega) hi, List.length_append, ih (l.length - cutN l.length) (by omega) _ _ (by rw [List.length_drop])]
        simp
theorem pathF_32 (hF : ∀ t, (F t).length = 32) : ∀ (n : Nat) (l : List Dg) (i : Nat), l.length = n → (∀ x ∈ l, x.length = 32) → ∀ x ∈ pathF F l i, x.length = 32 := by
  intro n
  induction n using Nat.strongRecOn with
  | _ n ih =>
    intro l i hl h32
    subst hl
    by_cases h1 : l.length ≤ 1
    · rw [pathF_one h1]; intro x hx; simp at hx
    · have hc := cutN_lt (n := l.length) (by omega)
      have hp := cutN_pos (n := l.length) (by omega)
      have ht : ∀ x ∈ l.take (cutN l.length), x.length = 32 := fun x hx => h32 x (List.mem_of_mem_take hx)
      have hd : ∀ x ∈ l.drop (cutN l.length), x.length = 32 := fun x hx => h32 x (List.mem_of_mem_drop hx)
      intro x hx
      by_cases hi : i < cutN l.length
      · rw [pathF_left (by omega) hi] at hx
        rcases List.mem_append.1 hx with hx | hx
        · exact ih _ hc _ _ (take_cut_len (by omega)) ht x hx
        · simp at hx
          subst hx
          exact rootF_len hF _ _ rfl hd
      · rw [pathF_right (by omega) hi] at hx
        rcases List.mem_append.1 hx with hx | hx
        · exact ih (l.length - cutN l.length) (by omega) _ _ (by rw [List.length_drop]) hd x hx
        · simp at hx
          subst hx
          exact rootF_len hF _ _ rfl ht
variable (F) in
/-- What a digest comes to by turns and a path, the innermost ones first. -/
def comeF : Dg → List Bool → List Dg → Dg
  | d, t :: ts, p :: ps => comeF (if t then nodeF F d p else nodeF F p d) ts ps
  | d, _, _ => d
theorem comeF_snoc : ∀ (ts : List Bool) (ps : List Dg) (d : Dg) (t : Bool) (p : Dg), ts.length = ps.length → comeF F d (ts ++ [t]) (ps ++ [p]) = if t then nodeF F (comeF F d ts ps) p else nodeF F p (comeF F d ts ps)
  | [], [], d, t, p, _ => rfl
  | a :: ts, b :: ps, d, t, p, h => by
    simp only [List.cons_append, comeF]
    exact comeF_snoc ts ps _ t p (by simpa using h)
theorem comeF_32 (hF : ∀ t, (F t).length = 32) : ∀ (ts : List Bool) (ps : List Dg) (d : Dg), d.length = 32 → (comeF F d ts ps).length = 32
  | [], _, d, h => h
  | _ :: _, [], d, h => h
  | t :: ts, p :: ps, d, _ => by
    rw [comeF]
    refine comeF_32 hF ts ps _ ?_
    cases t <;> exact hF _
/-- A leaf's path holds. -/
theorem path_holds : ∀ (n : Nat) (l : List Dg) (i : Nat) (d : Dg), l.length = n → l[i]? = some d → comeF F d (turns i n).reverse (pathF F l i) = rootF F l := by
  intro n
  induction n using Nat.strongRecOn with
  | _ n ih =>
    intro l i d hl hd
    subst hl
    have hil := (List.getElem?_eq_some_iff.1 hd).1
    by_cases h1 : l.length ≤ 1
    · rw [turns_one h1, pathF_one h1]
      match l, hd, h1, hil with
      | [x], hd, _, hil =>
        have hi0 : i = 0 := by simp at hil; omega
        subst hi0
        simp at hd
        rw [rootF_one, hd]
        rfl
    · have hc := cutN_lt (n := l.length) (by omega)
      have hp := cutN_pos (n := l.length) (by omega)
      have hlt := take_cut_len (l := l) (by omega)
      have hld : (l.drop (cutN l.length)).length = l.length - cutN l.length := by rw [List.length_drop]
      rw [rootF_two (l := l) (by omega)]
      by_cases hi : i < cutN l.length
      · rw [turns_left (by omega) hi, pathF_left (by omega) hi, List.reverse_cons, comeF_snoc _ _ _ _ _ (by rw [List.length_reverse, pathF_len _ _ _ hlt])]
        rw [ih _ hc _ _ d hlt (by rw [List.getElem?_take_of_lt hi]; exact hd)]
        rfl
      · rw [turns_right (by omega) hi, pathF_right (by omega) hi, List.reverse_cons, comeF_snoc _ _ _ _ _ (by rw [List.length_reverse, pathF_len _ _ _ hld])]
        rw [ih _ (by omega) _ _ d hld (by rw [List.getElem?_drop, show cutN l.length + (i - cutN l.length) = i by omega]; exact hd)]
        rfl
end
end Go.Proofs.Ytkcmacglomdfcaa
