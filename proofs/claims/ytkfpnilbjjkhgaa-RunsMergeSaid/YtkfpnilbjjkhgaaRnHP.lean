/-
  A HEAP, plainly: sifting down, a heap laid out, its least one taken; runs merged by it.
-/
import Derived.Test.YtkfpnilbjjkhgaaRnP
namespace Go.Proofs.Ytkfpnilbjjkhgaa
open Go.Lib Go.Sort

/-- What lies in the heap: a value (a slice), and the posts that it reads as. -/
abbrev Hx (α : Type) := α × List Po
variable {α : Type}
def hdP (l : List Po) : Po := l.headD ([], 0)
def lessH (x y : Hx α) : Bool := ltP (hdP x.2) (hdP y.2)
/-- Is the one at i less than the one at j? -/
def lessAt (xs : List (Hx α)) (i j : Nat) : Bool :=
  match xs[i]?, xs[j]? with
  | some x, some y => lessH x y
  | _, _ => false
def swapH (xs : List (Hx α)) (i j : Nat) : List (Hx α) :=
  match xs[i]?, xs[j]? with
  | some x, some y => (xs.set i y).set j x
  | _, _ => xs
/-- The lesser child of i, among the first n. -/
def childH (xs : List (Hx α)) (i n : Nat) : Nat := if 2 * i + 2 < n ∧ lessAt xs (2 * i + 2) (2 * i + 1) = true then 2 * i + 2 else 2 * i + 1
/-- Sifting down from i, among the first n: what lies then, and where it ends. -/
def dnF : Nat → List (Hx α) → Nat → Nat → List (Hx α) × Nat
  | 0, xs, i, _ => (xs, i)
  | f + 1, xs, i, n => if n ≤ 2 * i + 1 then (xs, i) else if lessAt xs (childH xs i n) i = true then dnF f (swapH xs i (childH xs i n)) (childH xs i n) n else (xs, i)
theorem childH_gt (xs : List (Hx α)) (i n : Nat) : i < childH xs i n := by unfold childH; split <;> omega
theorem childH_lt {xs : List (Hx α)} {i n : Nat} (h : 2 * i + 1 < n) : childH xs i n < n := by unfold childH; split <;> omega
theorem swapH_length (xs : List (Hx α)) (i j : Nat) : (swapH xs i j).length = xs.length := by
  unfold swapH; split <;> simp
theorem swapH_at {xs : List (Hx α)} {i j : Nat} {x y : Hx α} (hi : xs[i]? = some x) (hj : xs[j]? = some y) : swapH xs i j = (xs.set i y).set j x := by
  unfold swapH; rw [hi, hj]
theorem dnF_length : ∀ (f : Nat) (xs : List (Hx α)) (i n : Nat), (dnF f xs i n).1.length = xs.length
  | 0, _, _, _ => rfl
  | f + 1, xs, i, n => by
    rw [dnF]
    split
    · rfl
    · split
      · rw [dnF_length, swapH_length]
      · rfl
/-- dnF's place is the first one, or a later one. -/
theorem dnF_ge : ∀ (f : Nat) (xs : List (Hx α)) (i n : Nat), i ≤ (dnF f xs i n).2
  | 0, _, _, _ => Nat.le_refl _
  | f + 1, xs, i, n => by
    rw [dnF]
    split
    · exact Nat.le_refl _
    · split
      · exact Nat.le_trans (Nat.le_of_lt (childH_gt xs i n)) (dnF_ge f _ _ n)
      · exact Nat.le_refl _
theorem set_set_perm {xs : List (Hx α)} {i j : Nat} {x y : Hx α} (hi : xs[i]? = some x) (hj : xs[j]? = some y) : ((xs.set i y).set j x).Perm xs := by
  have hil := (List.getElem?_eq_some_iff.1 hi).1
  have hjl := (List.getElem?_eq_some_iff.1 hj).1
  have h1 := (List.getElem?_eq_some_iff.1 hi).2
  have h2 := (List.getElem?_eq_some_iff.1 hj).2
  have h3 := List.set_set_perm hil hjl
  rw [h1, h2] at h3
  exact h3
theorem swapH_perm (xs : List (Hx α)) (i j : Nat) : (swapH xs i j).Perm xs := by
  unfold swapH
  split
  · rename_i x y h1 h2
    exact set_set_perm h1 h2
  · exact List.Perm.refl _
theorem dnF_perm : ∀ (f : Nat) (xs : List (Hx α)) (i n : Nat), (dnF f xs i n).1.Perm xs
  | 0, _, _, _ => List.Perm.refl _
  | f + 1, xs, i, n => by
    rw [dnF]
    split
    · exact List.Perm.refl _
    · split
      · exact (dnF_perm f _ _ n).trans (swapH_perm _ _ _)
      · exact List.Perm.refl _
/-- What lies at n or behind it stays. -/
theorem swapH_other {xs : List (Hx α)} {i j k : Nat} (hi : k ≠ i) (hj : k ≠ j) : (swapH xs i j)[k]? = xs[k]? := by
  unfold swapH
  split
  · rw [List.getElem?_set_ne (Ne.symm hj), List.getElem?_set_ne (Ne.symm hi)]
  · rfl
theorem dnF_behind : ∀ (f : Nat) (xs : List (Hx α)) (i n k : Nat), i < n → n ≤ k → (dnF f xs i n).1[k]? = xs[k]?
  | 0, _, _, _, _, _, _ => rfl
  | f + 1, xs, i, n, k, hi, hk => by
    rw [dnF]
    split
    · rfl
    · split
      · have hc := childH_lt (xs := xs) (i := i) (n := n) (by omega)
        rw [dnF_behind f _ _ n k hc hk]
        exact swapH_other (by omega) (by omega)
      · rfl

/-! ### The heap's order -/
/-- No child is less than its parent, for the parents from lo on. -/
def HeapF (xs : List (Hx α)) (lo n : Nat) : Prop := ∀ p c, lo ≤ p → c < n → (c = 2 * p + 1 ∨ c = 2 * p + 2) → lessAt xs c p = false
/-- .. but at i; and i's parent is no greater than i's children. -/
def HeapBut (xs : List (Hx α)) (lo n i : Nat) : Prop := (∀ p c, lo ≤ p → p ≠ i → c < n → (c = 2 * p + 1 ∨ c = 2 * p + 2) → lessAt xs c p = false) ∧
  (∀ p c, lo ≤ p → (i = 2 * p + 1 ∨ i = 2 * p + 2) → c < n → (c = 2 * i + 1 ∨ c = 2 * i + 2) → lessAt xs c p = false)
theorem lessAt_some {xs : List (Hx α)} {i j : Nat} {x y : Hx α} (hi : xs[i]? = some x) (hj : xs[j]? = some y) : lessAt xs i j = lessH x y := by
  unfold lessAt; rw [hi, hj]
theorem lessAt_eq {xs ys : List (Hx α)} {i j i' j' : Nat} (h1 : xs[i]? = ys[i']?) (h2 : xs[j]? = ys[j']?) : lessAt xs i j = lessAt ys i' j' := by
  unfold lessAt; rw [h1, h2]
theorem nle_trans {a b c : Po} (h1 : ltP a b = false) (h2 : ltP b c = false) : ltP a c = false := by
  have := swoP.ntrans a b c h1 h2
  exact this
theorem lessAt_ntrans {xs : List (Hx α)} {a b c : Nat} (hb : b < xs.length) (h1 : lessAt xs a b = false) (h2 : lessAt xs b c = false) : lessAt xs a c = false := by
  have hbx := List.getElem?_eq_getElem hb
  cases ha : xs[a]? with
  | none => unfold lessAt; rw [ha]
  | some x =>
    cases hc : xs[c]? with
    | none => unfold lessAt; rw [ha, hc]
    | some z =>
      rw [lessAt_some ha hbx] at h1
      rw [lessAt_some hbx hc] at h2
      rw [lessAt_some ha hc]
      exact nle_trans h1 h2
theorem lessAt_asymm {xs : List (Hx α)} {a b : Nat} (h : lessAt xs a b = true) : lessAt xs b a = false := by
  unfold lessAt at *
  split at h
  · rename_i x y h1 h2
    rw [h1, h2]
    exact ltP_asymm h
  · cases h
theorem lessAt_irrefl (xs : List (Hx α)) (a : Nat) : lessAt xs a a = false := by
  unfold lessAt
  split
  · rename_i x y h1 h2
    rw [h1] at h2; cases h2
    exact ltP_irrefl _
  · rfl
theorem childH_least {xs : List (Hx α)} {i n c : Nat} (hc : c < n) (h : c = 2 * i + 1 ∨ c = 2 * i + 2) : lessAt xs c (childH xs i n) = false := by
  unfold childH
  split
  · rename_i h1
    rcases h with rfl | rfl
    · exact lessAt_asymm h1.2
    · exact lessAt_irrefl _ _
  · rename_i h1
    rcases h with rfl | rfl
    · exact lessAt_irrefl _ _
    · cases h2 : lessAt xs (2 * i + 2) (2 * i + 1) with
      | false => rfl
      | true => exact absurd ⟨hc, h2⟩ h1
theorem childH_is (xs : List (Hx α)) (i n : Nat) : childH xs i n = 2 * i + 1 ∨ childH xs i n = 2 * i + 2 := by
  unfold childH; split
  · exact .inr rfl
  · exact .inl rfl
theorem swapH_i {xs : List (Hx α)} {i j : Nat} (hi : i < xs.length) (hj : j < xs.length) (hij : i ≠ j) : (swapH xs i j)[i]? = xs[j]? ∧ (swapH xs i j)[j]? = xs[i]? := by
  have h1 := List.getElem?_eq_getElem hi
  have h2 := List.getElem?_eq_getElem hj
  rw [swapH_at h1 h2]
  constructor
  · rw [List.getElem?_set_ne (Ne.symm hij), List.getElem?_set_self hi, h2]
  · rw [List.getElem?_set_self (by simpa using hj), h1]
theorem dnF_heap : ∀ (f : Nat) (xs : List (Hx α)) (i n lo : Nat), n ≤ i + f → n ≤ xs.length → lo ≤ i → i < n → HeapBut xs lo n i → HeapF (dnF f xs i n).1 lo n
  | 0, xs, i, n, lo, h1, _, _, h3, _ => by omega
  | f + 1, xs, i, n, lo, hf, hn, hlo, hin, ⟨hA, hB⟩ => by
    rw [dnF]
    split
    · intro p c hp hc hpc
      by_cases hpi : p = i
      · omega
      · exact hA p c hp hpi hc hpc
    · rename_i hlt
      have hcn := childH_lt (xs := xs) (i := i) (n := n) (by omega)
      have hcg := childH_gt xs i n
      have hci := childH_is xs i n
      have hcl : ∀ c, c < n → (c = 2 * i + 1 ∨ c = 2 * i + 2) → lessAt xs c (childH xs i n) = false := fun c hc h => childH_least hc h
      generalize childH xs i n = j at *
      split
      · rename_i hless
        obtain ⟨s1, s2⟩ := swapH_i (xs := xs) (i := i) (j := j) (by omega) (by omega) (by omega)
        have so : ∀ k, k ≠ i → k ≠ j → (swapH xs i j)[k]? = xs[k]? := fun k a b => swapH_other a b
        refine dnF_heap f _ j n lo (by omega) (by rw [swapH_length]; exact hn) (by omega) hcn ⟨fun p c hp hpj hc hpc => ?_, fun p c hp hjp hc hcj => ?_⟩
        · by_cases hpi : p = i
          · subst hpi
            by_cases hcj : c = j
            · subst hcj
              rw [lessAt_eq s2 s1]
              exact lessAt_asymm hless
            · rw [lessAt_eq (so c (by omega) hcj) s1]
              exact hcl c hc hpc
          · by_cases hci2 : c = i
            · subst hci2
              rw [lessAt_eq s1 (so p (by omega) (by omega))]
              exact hB p j hp hpc hcn hci
            · have hcj : c ≠ j := by omega
              rw [lessAt_eq (so c hci2 hcj) (so p hpi hpj)]
              exact hA p c hp hpi hc hpc
        · have hpi : p = i := by omega
          subst hpi
          rw [lessAt_eq (so c (by omega) (by omega)) s1]
          exact hA j c (by omega) (by omega) hc hcj
      · rename_i hless
        intro p c hp hc hpc
        by_cases hpi : p = i
        · subst hpi
          exact lessAt_ntrans (b := j) (by show j < xs.length; omega) (hcl c hc hpc) (by simpa using hless)
        · exact hA p c hp hpi hc hpc
theorem HeapF.root {xs : List (Hx α)} {n : Nat} (h : HeapF xs 0 n) (hn : n ≤ xs.length) : ∀ (k i : Nat), i ≤ k → i < n → lessAt xs i 0 = false
  | 0, i, hk, _ => by
    obtain rfl : i = 0 := by omega
    exact lessAt_irrefl _ _
  | k + 1, i, hk, hi => by
    by_cases h0 : i = 0
    · subst h0; exact lessAt_irrefl _ _
    · refine lessAt_ntrans (b := (i - 1) / 2) (by omega) (h ((i - 1) / 2) i (Nat.zero_le _) hi (by omega)) (HeapF.root h hn k _ (by omega) (by omega))

theorem take_snocH {β : Type} {l : List β} {k : Nat} {x : β} (h : l[k]? = some x) : l.take (k + 1) = l.take k ++ [x] := by
  obtain ⟨h1, h2⟩ := List.getElem?_eq_some_iff.1 h
  rw [List.take_succ_eq_append_getElem h1, h2]

/-! ### heap.Init, heap.Pop, heap.Fix(0) -/
/-- Sifting down the parents k - 1, .., 0. -/
def initF : Nat → List (Hx α) → List (Hx α)
  | 0, xs => xs
  | k + 1, xs => initF k (dnF xs.length xs k xs.length).1
theorem initF_heap : ∀ (k : Nat) (xs : List (Hx α)), k ≤ xs.length → HeapF xs k xs.length → HeapF (initF k xs) 0 (initF k xs).length ∧ (initF k xs).Perm xs
  | 0, xs, _, h => ⟨h, List.Perm.refl _⟩
  | k + 1, xs, hk, h => by
    have hl := dnF_length xs.length xs k xs.length
    have h1 : HeapF (dnF xs.length xs k xs.length).1 k xs.length := dnF_heap _ _ _ _ k (by omega) (Nat.le_refl _) (Nat.le_refl _) (by omega)
      ⟨fun p c hp hpk hc hpc => h p c (by omega) hc hpc, fun p c hp hkp hc hck => by omega⟩
    obtain ⟨h2, h3⟩ := initF_heap k (dnF xs.length xs k xs.length).1 (by omega) (by rw [hl]; exact h1)
    exact ⟨h2, h3.trans (dnF_perm _ _ _ _)⟩
theorem initF_half (xs : List (Hx α)) : HeapF (initF (xs.length / 2) xs) 0 (initF (xs.length / 2) xs).length ∧ (initF (xs.length / 2) xs).Perm xs :=
  initF_heap _ _ (by omega) fun p c hp hc hpc => by omega
def fixF (xs : List (Hx α)) : List (Hx α) := (dnF xs.length xs 0 xs.length).1
theorem fixF_heap {xs : List (Hx α)} {x : Hx α} (h : HeapF xs 0 xs.length) (hl : 0 < xs.length) : HeapF (fixF (xs.set 0 x)) 0 (fixF (xs.set 0 x)).length ∧ (fixF (xs.set 0 x)).Perm (xs.set 0 x) := by
  unfold fixF
  refine ⟨?_, dnF_perm _ _ _ _⟩
  rw [dnF_length]
  refine dnF_heap _ _ _ _ 0 (by omega) (Nat.le_refl _) (Nat.le_refl _) (by simpa using hl) ⟨fun p c hp hpi hc hpc => ?_, fun p c hp hp0 hc hpc => by omega⟩
  rw [lessAt_eq (List.getElem?_set_ne (by omega)) (List.getElem?_set_ne (by omega))]
  exact h p c hp (by simpa using hc) hpc
def popF (xs : List (Hx α)) : List (Hx α) := ((dnF (xs.length - 1) (swapH xs 0 (xs.length - 1)) 0 (xs.length - 1)).1).take (xs.length - 1)
theorem popF_length (xs : List (Hx α)) : (popF xs).length = xs.length - 1 := by
  rw [popF, List.length_take, dnF_length, swapH_length]; omega
theorem popF_heap {x : Hx α} {r : List (Hx α)} (h : HeapF (x :: r) 0 (x :: r).length) : HeapF (popF (x :: r)) 0 (popF (x :: r)).length ∧ (popF (x :: r)).Perm r := by
  have hlen := popF_length (x :: r)
  have hr : (x :: r).length - 1 = r.length := by simp
  rw [hr] at hlen
  rw [hlen]
  unfold popF
  rw [hr]
  have hd := dnF_length r.length (swapH (x :: r) 0 r.length) 0 r.length
  rw [swapH_length] at hd
  by_cases h0 : r = []
  · subst h0
    refine ⟨fun p c _ hc => absurd hc (by simp), ?_⟩
    simp
  · have hrl : 0 < r.length := List.length_pos_iff.2 h0
    have hlast : (dnF r.length (swapH (x :: r) 0 r.length) 0 r.length).1[r.length]? = some x := by
      rw [dnF_behind _ _ _ _ _ hrl (Nat.le_refl _)]
      rw [(swapH_i (by simp) (by simp) (by omega)).2]
      rfl
    have hperm := (dnF_perm r.length (swapH (x :: r) 0 r.length) 0 r.length).trans (swapH_perm (x :: r) 0 r.length)
    have hheap : HeapF (dnF r.length (swapH (x :: r) 0 r.length) 0 r.length).1 0 r.length := by
      refine dnF_heap _ _ _ _ 0 (by omega) (by rw [swapH_length]; simp) (Nat.le_refl _) hrl ⟨fun p c hp hpi hc hpc => ?_, fun p c hp hp0 hc hpc => by omega⟩
      rw [lessAt_eq (swapH_other (by omega) (by omega)) (swapH_other (by omega) (by omega))]
      exact h p c hp (by simp; omega) hpc
    generalize (dnF r.length (swapH (x :: r) 0 r.length) 0 r.length).1 = ys at *
    have hys : ys = ys.take r.length ++ [x] := by
      rw [← take_snocH hlast, List.take_of_length_le (by rw [hd]; simp)]
    refine ⟨fun p c hp hc hpc => ?_, ?_⟩
    · rw [lessAt_eq (List.getElem?_take_of_lt hc) (List.getElem?_take_of_lt (by omega))]
      exact hheap p c hp hc hpc
    · have h5 : (ys.take r.length ++ [x]).Perm (x :: r) := by rw [← hys]; exact hperm
      have h6 : (x :: ys.take r.length).Perm (x :: r) := (List.perm_append_comm (l₁ := [x])).trans h5
      exact (List.perm_cons x).1 h6

/-! ### Merging -/
def outF (out : List Po) (p : Po) : List Po := if out.getLast? = some p then out else out ++ [p]
/-- One round: what lies in the heap, what has come out. -/
def stepF (tl : α → α) (xs : List (Hx α)) (out : List Po) : List (Hx α) × List Po :=
  match xs with
  | [] => ([], out)
  | x :: r => (if x.2.length = 1 then popF (x :: r) else fixF ((x :: r).set 0 (tl x.1, x.2.tail)), outF out (hdP x.2))
def allP (xs : List (Hx α)) : List Po := xs.flatMap (·.2)
/-- What holds between two rounds, all posts being those of 'all'. -/
structure MergeOk (xs : List (Hx α)) (out all : List Po) : Prop where
  heap : HeapF xs 0 xs.length
  asc : ∀ x ∈ xs, Asc x.2 ∧ x.2 ≠ []
  ascO : Asc out
  above : ∀ p ∈ out, ∀ q ∈ allP xs, ltP q p = false
  mem : ∀ z, z ∈ all ↔ z ∈ out ∨ z ∈ allP xs
theorem allP_mem {xs : List (Hx α)} {z : Po} : z ∈ allP xs ↔ ∃ x ∈ xs, z ∈ x.2 := by simp [allP]
theorem allP_perm {xs ys : List (Hx α)} (h : xs.Perm ys) (z : Po) : z ∈ allP xs ↔ z ∈ allP ys := by
  rw [allP_mem, allP_mem]
  constructor
  · rintro ⟨x, h1, h2⟩; exact ⟨x, h.mem_iff.1 h1, h2⟩
  · rintro ⟨x, h1, h2⟩; exact ⟨x, h.mem_iff.2 h1, h2⟩
theorem hd_least {l : List Po} (h : Asc l) {z : Po} (hz : z ∈ l) : ltP z (hdP l) = false := by
  cases l with
  | nil => simp at hz
  | cons y r =>
    rcases List.mem_cons.1 hz with e | hz
    · subst e; exact ltP_irrefl _
    · exact ltP_asymm (h.head z hz)
theorem hd_all {x : Hx α} {r : List (Hx α)} (h : HeapF (x :: r) 0 (x :: r).length) (ha : ∀ y ∈ x :: r, Asc y.2 ∧ y.2 ≠ []) {z : Po} (hz : z ∈ allP (x :: r)) : ltP z (hdP x.2) = false := by
  obtain ⟨y, hy, hz⟩ := allP_mem.1 hz
  obtain ⟨i, hi⟩ := List.mem_iff_getElem?.1 hy
  have h1 := h.root (Nat.le_refl _) i i (Nat.le_refl _) (List.getElem?_eq_some_iff.1 hi).1
  rw [lessAt_some hi (by rfl : (x :: r)[0]? = some x)] at h1
  exact nle_trans (hd_least (ha y hy).1 hz) h1
theorem last_mem {l : List Po} {p : Po} (h : l.getLast? = some p) : p ∈ l := List.mem_of_getLast? h
theorem stepF_ok {tl : α → α} {x : Hx α} {r : List (Hx α)} {out all : List Po} (h : MergeOk (x :: r) out all) : MergeOk (stepF tl (x :: r) out).1 (stepF tl (x :: r) out).2 all := by
  obtain ⟨hax, hnx⟩ := h.asc x (by simp)
  obtain ⟨y, l, hxl⟩ : ∃ y l, x.2 = y :: l := List.exists_cons_of_ne_nil hnx
  have hhd : hdP x.2 = y := by rw [hxl]; rfl
  have hyall : y ∈ allP (x :: r) := allP_mem.2 ⟨x, by simp, by rw [hxl]; simp⟩
  -- what comes out
  have hout : Asc (outF out y) ∧ (∀ z, z ∈ outF out y ↔ z ∈ out ∨ z = y) := by
    unfold outF
    split
    · rename_i hl
      refine ⟨h.ascO, fun z => ⟨.inl, ?_⟩⟩
      rintro (h1 | h1)
      · exact h1
      · subst h1; exact last_mem hl
    · rename_i hl
      refine ⟨?_, fun z => by simp⟩
      unfold Asc
      rw [List.pairwise_append]
      refine ⟨h.ascO, List.pairwise_singleton _ _, fun a ha b hb => ?_⟩
      simp at hb
      subst hb
      have h1 := h.above a ha b hyall
      cases h2 : ltP a b with
      | true => rfl
      | false =>
        exfalso
        have e := ltP_total h2 h1
        subst e
        -- a is in out, nothing in out is above a but a itself: a is the last one
        obtain ⟨i, hi⟩ := List.mem_iff_getElem?.1 ha
        have hil := (List.getElem?_eq_some_iff.1 hi).1
        by_cases hlast : i + 1 = out.length
        · apply hl
          rw [List.getLast?_eq_getElem?, ← hi]
          congr 1
          omega
        · have h3 := List.pairwise_iff_getElem.1 h.ascO i (out.length - 1) hil (by omega) (by omega)
          have e4 := (List.getElem?_eq_some_iff.1 hi).2
          rw [e4] at h3
          have h5 := h.above out[out.length - 1] (List.getElem_mem _) a hyall
          rw [h3] at h5
          cases h5
  -- what stays in the heap: sorted, and all but y
  have key : ∀ xs' : List (Hx α), HeapF xs' 0 xs'.length → (∀ z ∈ xs', Asc z.2 ∧ z.2 ≠ []) → (∀ z, z ∈ allP (x :: r) ↔ z = y ∨ z ∈ allP xs') → MergeOk xs' (outF out (hdP x.2)) all := by
    intro xs' h1 h2 h3
    rw [hhd]
    refine ⟨h1, h2, hout.1, fun p hp q hq => ?_, fun z => ?_⟩
    · have hq' := (h3 q).2 (.inr hq)
      rcases (hout.2 p).1 hp with hp | hp
      · exact h.above p hp q hq'
      · subst hp
        rw [← hhd]
        exact hd_all h.heap h.asc hq'
    · rw [h.mem, hout.2, h3]
      constructor
      · rintro (h | h | h)
        · exact .inl (.inl h)
        · exact .inl (.inr h)
        · exact .inr h
      · rintro ((h | h) | h)
        · exact .inl h
        · exact .inr (.inl h)
        · exact .inr (.inr h)
  unfold stepF
  simp only
  by_cases h1 : x.2.length = 1
  · rw [if_pos h1]
    obtain ⟨p1, p2⟩ := popF_heap h.heap
    have hl0 : l = [] := by
      rw [hxl] at h1
      exact List.eq_nil_of_length_eq_zero (by simpa using h1)
    subst hl0
    refine key _ p1 (fun z hz => h.asc z (List.mem_cons_of_mem _ (p2.mem_iff.1 hz))) fun z => ?_
    rw [allP_perm p2]
    simp [allP, hxl]
  · rw [if_neg h1]
    obtain ⟨p1, p2⟩ := fixF_heap (x := (tl x.1, x.2.tail)) h.heap (by simp)
    rw [List.set_cons_zero] at p1 p2 ⊢
    have hl0 : l ≠ [] := by
      intro e
      rw [hxl, e] at h1
      simp at h1
    refine key _ p1 (fun z hz => ?_) fun z => ?_
    · rcases List.mem_cons.1 (p2.mem_iff.1 hz) with e | hz
      · subst e
        simp only [hxl, List.tail_cons]
        rw [hxl] at hax
        exact ⟨hax.tail, hl0⟩
      · exact h.asc z (List.mem_cons_of_mem _ hz)
    · rw [allP_perm p2]
      simp [allP, hxl, or_assoc]
/-- The end: nothing lies in the heap. -/
theorem MergeOk.done {out all : List Po} (h : MergeOk ([] : List (Hx α)) out all) : out = newF all := by
  obtain ⟨h1, h2⟩ := newF_all all
  refine Asc.uniq h.ascO h1 fun z => ?_
  rw [h2, h.mem]
  simp [allP]
theorem MergeOk.start {xs : List (Hx α)} (h : ∀ x ∈ xs, Asc x.2 ∧ x.2 ≠ []) : MergeOk (initF (xs.length / 2) xs) [] (allP xs) := by
  obtain ⟨h1, h2⟩ := initF_half xs
  refine ⟨h1, fun x hx => h x (h2.mem_iff.1 hx), List.Pairwise.nil, fun p hp => by simp at hp, fun z => ?_⟩
  rw [allP_perm h2]
  simp
/-- The posts left: the measure. -/
def leftF (xs : List (Hx α)) : Nat := (xs.map fun x => x.2.length).sum
theorem leftF_perm {xs ys : List (Hx α)} (h : xs.Perm ys) : leftF xs = leftF ys := by
  unfold leftF
  exact (h.map _).sum_nat
theorem stepF_left {tl : α → α} {x : Hx α} {r : List (Hx α)} {out : List Po} (h : HeapF (x :: r) 0 (x :: r).length) (hx : x.2 ≠ []) : leftF (stepF tl (x :: r) out).1 + 1 = leftF (x :: r) := by
  obtain ⟨y, l, hxl⟩ : ∃ y l, x.2 = y :: l := List.exists_cons_of_ne_nil hx
  unfold stepF
  simp only
  by_cases h1 : x.2.length = 1
  · rw [if_pos h1, leftF_perm (popF_heap h).2]
    simp only [leftF, List.map_cons, List.sum_cons, h1]
    omega
  · rw [if_neg h1, leftF_perm (fixF_heap h (by simp)).2]
    rw [List.set_cons_zero]
    simp only [leftF, List.map_cons, List.sum_cons, hxl, List.tail_cons, List.length_cons]
    omega
end Go.Proofs.Ytkfpnilbjjkhgaa
